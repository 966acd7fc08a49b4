/- That each function does what its model says. Written by a program out of the translated functions. -/
import Derived.Test.YtbofhmcjcllcaaaM
import Derived.Test.YtbofhmcjcllcaaaFwM
import Derived.Test.YtbofhmcjcllcaaaProg
import Derived.KernelRfl
import Derived.Test.YtbofhmcjcllcaaaExC
namespace Go.Proofs.Ytbofhmcjcllcaaa
open Go Go.Fw

theorem mixed_ok : Try.prog.follows .mixedOrders = true := by kernel_rfl

noncomputable def s_stream_New : CallSpec := ⟨[], [.one (.P)], fun _ K h => m_stream_New (fun r0 h => K (r0, ()) h) h⟩
noncomputable def c_stream_New : Cfg := ⟨Try.prog, [], 4, []⟩
theorem r_stream_New (t : TupV []) (K : TupV [.one (.P)] → Heap → Prop) (h : Heap) :
    funP ⟨Try.prog, [], 4, []⟩ Try.f4 (.leaf) (TupV.evs [] t) [.one (.P)] K h = g_stream_New (fun r0 h => K (r0, ()) h) h := by kernel_rfl
theorem ok_stream_New : CallOK Try.prog 4 s_stream_New :=
  ok_of (c := c_stream_New) Try.func4 (by kernel_rfl) (by kernel_rfl) rfl (by decide) (cfg_ok _ .nil .nil) mixed_ok fun t K h => r_stream_New t K h

noncomputable def s_stream_Net_arePorts_1 : CallSpec := ⟨[.one (.I .i64)], [.one (.B)], fun t K h => m_stream_Net_arePorts_1 t.1 (fun r0 h => K (r0, ()) h) h⟩
noncomputable def c_stream_Net_arePorts_1 : Cfg := ⟨Try.prog, [], 9, []⟩
theorem r_stream_Net_arePorts_1 (t : TupV [.one (.I .i64)]) (K : TupV [.one (.B)] → Heap → Prop) (h : Heap) :
    funP ⟨Try.prog, [], 9, []⟩ Try.f41 (.leaf) (TupV.evs [.one (.I .i64)] t) [.one (.B)] K h = g_stream_Net_arePorts_1 t.1 (fun r0 h => K (r0, ()) h) h := by kernel_rfl
theorem ok_stream_Net_arePorts_1 : CallOK Try.prog 41 s_stream_Net_arePorts_1 :=
  ok_of (c := c_stream_Net_arePorts_1) Try.func41 (by kernel_rfl) (by kernel_rfl) rfl (by decide) (cfg_ok _ .nil .nil) mixed_ok fun t K h => r_stream_Net_arePorts_1 t K h

noncomputable def s_slices_IndexFunc_int_int___stream_Net_arePorts_1 : CallSpec := ⟨[.one (.L), .fn 41], [.one (.I .i64)], fun t K h => m_slices_IndexFunc_int_int___stream_Net_arePorts_1 t.1 (fun r0 h => K (r0, ()) h) h⟩
noncomputable def c_slices_IndexFunc_int_int___stream_Net_arePorts_1 : Cfg := ⟨Try.prog, [(41, s_stream_Net_arePorts_1)], 19, []⟩
theorem r_slices_IndexFunc_int_int___stream_Net_arePorts_1 (f_stream_Net_arePorts_1 : Int → (Bool → Heap → Prop) → Heap → Prop) (t : TupV [.one (.L), .fn 41]) (K : TupV [.one (.I .i64)] → Heap → Prop) (h : Heap) :
    funP ⟨Try.prog, [(41, ⟨[.one (.I .i64)], [.one (.B)], fun t K h => f_stream_Net_arePorts_1 t.1 (fun r0 h => K (r0, ()) h) h⟩)], 19, []⟩ Try.f55 (.seq (.leaf) (.seq (.seq (.leaf) (.block (.loop [8] [.one (.I .i64)] [(4, 5), (9, 18)] (.leaf)))) (.leaf))) (TupV.evs [.one (.L), .fn 41] t) [.one (.I .i64)] K h = g_slices_IndexFunc_int_int___stream_Net_arePorts_1 f_stream_Net_arePorts_1 t.1 (fun r0 h => K (r0, ()) h) h := by kernel_rfl
theorem ok_slices_IndexFunc_int_int___stream_Net_arePorts_1 : CallOK Try.prog 55 s_slices_IndexFunc_int_int___stream_Net_arePorts_1 :=
  ok_of (c := c_slices_IndexFunc_int_int___stream_Net_arePorts_1) Try.func55 (by kernel_rfl) (by kernel_rfl) rfl (by decide) (cfg_ok _ (.cons ok_stream_Net_arePorts_1 .nil) .nil) mixed_ok fun t K h => r_slices_IndexFunc_int_int___stream_Net_arePorts_1 m_stream_Net_arePorts_1 t K h

noncomputable def s_slices_ContainsFunc_int_int___stream_Net_arePorts_1 : CallSpec := ⟨[.one (.L), .fn 41], [.one (.B)], fun t K h => m_slices_ContainsFunc_int_int___stream_Net_arePorts_1 t.1 (fun r0 h => K (r0, ()) h) h⟩
noncomputable def c_slices_ContainsFunc_int_int___stream_Net_arePorts_1 : Cfg := ⟨Try.prog, [(55, s_slices_IndexFunc_int_int___stream_Net_arePorts_1)], 9, []⟩
theorem r_slices_ContainsFunc_int_int___stream_Net_arePorts_1 (f_slices_IndexFunc_int_int___stream_Net_arePorts_1 : Sl → (Int → Heap → Prop) → Heap → Prop) (t : TupV [.one (.L), .fn 41]) (K : TupV [.one (.B)] → Heap → Prop) (h : Heap) :
    funP ⟨Try.prog, [(55, ⟨[.one (.L), .fn 41], [.one (.I .i64)], fun t K h => f_slices_IndexFunc_int_int___stream_Net_arePorts_1 t.1 (fun r0 h => K (r0, ()) h) h⟩)], 9, []⟩ Try.f40 (.leaf) (TupV.evs [.one (.L), .fn 41] t) [.one (.B)] K h = g_slices_ContainsFunc_int_int___stream_Net_arePorts_1 f_slices_IndexFunc_int_int___stream_Net_arePorts_1 t.1 (fun r0 h => K (r0, ()) h) h := by kernel_rfl
theorem ok_slices_ContainsFunc_int_int___stream_Net_arePorts_1 : CallOK Try.prog 40 s_slices_ContainsFunc_int_int___stream_Net_arePorts_1 :=
  ok_of (c := c_slices_ContainsFunc_int_int___stream_Net_arePorts_1) Try.func40 (by kernel_rfl) (by kernel_rfl) rfl (by decide) (cfg_ok _ (.cons ok_slices_IndexFunc_int_int___stream_Net_arePorts_1 .nil) .nil) mixed_ok fun t K h => r_slices_ContainsFunc_int_int___stream_Net_arePorts_1 m_slices_IndexFunc_int_int___stream_Net_arePorts_1 t K h

noncomputable def s_stream_Net_arePorts : CallSpec := ⟨[.one (.P), .one (.L)], [.one (.I .i64)], fun t K h => m_stream_Net_arePorts t.1 t.2.1 (fun r0 h => K (r0, ()) h) h⟩
noncomputable def c_stream_Net_arePorts : Cfg := ⟨Try.prog, [(40, s_slices_ContainsFunc_int_int___stream_Net_arePorts_1)], 11, []⟩
theorem r_stream_Net_arePorts (f_slices_ContainsFunc_int_int___stream_Net_arePorts_1 : Sl → (Bool → Heap → Prop) → Heap → Prop) (t : TupV [.one (.P), .one (.L)]) (K : TupV [.one (.I .i64)] → Heap → Prop) (h : Heap) :
    funP ⟨Try.prog, [(40, ⟨[.one (.L), .fn 41], [.one (.B)], fun t K h => f_slices_ContainsFunc_int_int___stream_Net_arePorts_1 t.1 (fun r0 h => K (r0, ()) h) h⟩)], 11, []⟩ Try.f21 (.leaf) (TupV.evs [.one (.P), .one (.L)] t) [.one (.I .i64)] K h = g_stream_Net_arePorts f_slices_ContainsFunc_int_int___stream_Net_arePorts_1 t.1 t.2.1 (fun r0 h => K (r0, ()) h) h := by kernel_rfl
theorem ok_stream_Net_arePorts : CallOK Try.prog 21 s_stream_Net_arePorts :=
  ok_of (c := c_stream_Net_arePorts) Try.func21 (by kernel_rfl) (by kernel_rfl) rfl (by decide) (cfg_ok _ (.cons ok_slices_ContainsFunc_int_int___stream_Net_arePorts_1 .nil) .nil) mixed_ok fun t K h => r_stream_Net_arePorts m_slices_ContainsFunc_int_int___stream_Net_arePorts_1 t K h

noncomputable def s_stream_Net_Listen : CallSpec := ⟨[.one (.P), .one (.L)], [.one (.I .i64)], fun t K h => m_stream_Net_Listen t.1 t.2.1 (fun r0 h => K (r0, ()) h) h⟩
noncomputable def c_stream_Net_Listen : Cfg := ⟨Try.prog, [(21, s_stream_Net_arePorts)], 26, []⟩
theorem r_stream_Net_Listen (f_stream_Net_arePorts : (Option Addr) → Sl → (Int → Heap → Prop) → Heap → Prop) (t : TupV [.one (.P), .one (.L)]) (K : TupV [.one (.I .i64)] → Heap → Prop) (h : Heap) :
    funP ⟨Try.prog, [(21, ⟨[.one (.P), .one (.L)], [.one (.I .i64)], fun t K h => f_stream_Net_arePorts t.1 t.2.1 (fun r0 h => K (r0, ()) h) h⟩)], 26, []⟩ Try.f5 (.seq (.leaf) (.seq (.leaf) (.seq (.seq (.leaf) (.block (.loop [16] [.one (.I .i64)] [(7, 7), (17, 25)] (.leaf)))) (.leaf)))) (TupV.evs [.one (.P), .one (.L)] t) [.one (.I .i64)] K h = g_stream_Net_Listen f_stream_Net_arePorts t.1 t.2.1 (fun r0 h => K (r0, ()) h) h := by kernel_rfl
theorem ok_stream_Net_Listen : CallOK Try.prog 5 s_stream_Net_Listen :=
  ok_of (c := c_stream_Net_Listen) Try.func5 (by kernel_rfl) (by kernel_rfl) rfl (by decide) (cfg_ok _ (.cons ok_stream_Net_arePorts .nil) .nil) mixed_ok fun t K h => r_stream_Net_Listen m_stream_Net_arePorts t K h

noncomputable def s_stream_Net_Conns : CallSpec := ⟨[.one (.P)], [.one (.L)], fun t K h => m_stream_Net_Conns t.1 (fun r0 h => K (r0, ()) h) h⟩
noncomputable def c_stream_Net_Conns : Cfg := ⟨Try.prog, [], 28, []⟩
theorem r_stream_Net_Conns (t : TupV [.one (.P)]) (K : TupV [.one (.L)] → Heap → Prop) (h : Heap) :
    funP ⟨Try.prog, [], 28, []⟩ Try.f22 (.seq (.leaf) (.seq (.leaf) (.seq (.leaf) (.seq (.seq (.leaf) (.block (.loop [3, 13] [.one (.L), .one (.I .i64)] [(4, 5), (14, 26)] (.leaf)))) (.leaf))))) (TupV.evs [.one (.P)] t) [.one (.L)] K h = g_stream_Net_Conns t.1 (fun r0 h => K (r0, ()) h) h := by kernel_rfl
theorem ok_stream_Net_Conns : CallOK Try.prog 22 s_stream_Net_Conns :=
  ok_of (c := c_stream_Net_Conns) Try.func22 (by kernel_rfl) (by kernel_rfl) rfl (by decide) (cfg_ok _ .nil .nil) mixed_ok fun t K h => r_stream_Net_Conns t K h

noncomputable def s_stream_Net_Dial : CallSpec := ⟨[.one (.P), .one (.I .i64)], [.one (.I .i64), .one (.I .i64)], fun t K h => m_stream_Net_Dial t.1 t.2.1 (fun r0 r1 h => K (r0, r1, ()) h) h⟩
noncomputable def c_stream_Net_Dial : Cfg := ⟨Try.prog, [(21, s_stream_Net_arePorts), (22, s_stream_Net_Conns)], 43, []⟩
theorem r_stream_Net_Dial (f_stream_Net_arePorts : (Option Addr) → Sl → (Int → Heap → Prop) → Heap → Prop) (f_stream_Net_Conns : (Option Addr) → (Sl → Heap → Prop) → Heap → Prop) (t : TupV [.one (.P), .one (.I .i64)]) (K : TupV [.one (.I .i64), .one (.I .i64)] → Heap → Prop) (h : Heap) :
    funP ⟨Try.prog, [(21, ⟨[.one (.P), .one (.L)], [.one (.I .i64)], fun t K h => f_stream_Net_arePorts t.1 t.2.1 (fun r0 h => K (r0, ()) h) h⟩), (22, ⟨[.one (.P)], [.one (.L)], fun t K h => f_stream_Net_Conns t.1 (fun r0 h => K (r0, ()) h) h⟩)], 43, []⟩ Try.f6 (.leaf) (TupV.evs [.one (.P), .one (.I .i64)] t) [.one (.I .i64), .one (.I .i64)] K h = g_stream_Net_Dial f_stream_Net_arePorts f_stream_Net_Conns t.1 t.2.1 (fun r0 r1 h => K (r0, r1, ()) h) h := by kernel_rfl
theorem ok_stream_Net_Dial : CallOK Try.prog 6 s_stream_Net_Dial :=
  ok_of (c := c_stream_Net_Dial) Try.func6 (by kernel_rfl) (by kernel_rfl) rfl (by decide) (cfg_ok _ (.cons ok_stream_Net_arePorts (.cons ok_stream_Net_Conns .nil)) .nil) mixed_ok fun t K h => r_stream_Net_Dial m_stream_Net_arePorts m_stream_Net_Conns t K h

noncomputable def s_proto_from : CallSpec := ⟨[.one (.I .i64), .one (.I .i64), .one (.I .i64)], [.one (.B)], fun t K h => m_proto_from t.1 t.2.1 t.2.2.1 (fun r0 h => K (r0, ()) h) h⟩
noncomputable def c_proto_from : Cfg := ⟨Try.prog, [], 15, []⟩
theorem r_proto_from (t : TupV [.one (.I .i64), .one (.I .i64), .one (.I .i64)]) (K : TupV [.one (.B)] → Heap → Prop) (h : Heap) :
    funP ⟨Try.prog, [], 15, []⟩ Try.f42 (.leaf) (TupV.evs [.one (.I .i64), .one (.I .i64), .one (.I .i64)] t) [.one (.B)] K h = g_proto_from t.1 t.2.1 t.2.2.1 (fun r0 h => K (r0, ()) h) h := by kernel_rfl
theorem ok_proto_from : CallOK Try.prog 42 s_proto_from :=
  ok_of (c := c_proto_from) Try.func42 (by kernel_rfl) (by kernel_rfl) rfl (by decide) (cfg_ok _ .nil .nil) mixed_ok fun t K h => r_proto_from t K h

noncomputable def s_proto_isName : CallSpec := ⟨[.one (.S)], [.one (.B)], fun t K h => m_proto_isName t.1 (fun r0 h => K (r0, ()) h) h⟩
noncomputable def c_proto_isName : Cfg := ⟨Try.prog, [(42, s_proto_from)], 19, []⟩
theorem r_proto_isName (f_proto_from : Int → Int → Int → (Bool → Heap → Prop) → Heap → Prop) (t : TupV [.one (.S)]) (K : TupV [.one (.B)] → Heap → Prop) (h : Heap) :
    funP ⟨Try.prog, [(42, ⟨[.one (.I .i64), .one (.I .i64), .one (.I .i64)], [.one (.B)], fun t K h => f_proto_from t.1 t.2.1 t.2.2.1 (fun r0 h => K (r0, ()) h) h⟩)], 19, []⟩ Try.f43 (.seq (.leaf) (.seq (.seq (.leaf) (.block (.loop [6] [.one (.I .i64)] [(2, 3), (7, 15)] (.leaf)))) (.leaf))) (TupV.evs [.one (.S)] t) [.one (.B)] K h = g_proto_isName f_proto_from t.1 (fun r0 h => K (r0, ()) h) h := by kernel_rfl
theorem ok_proto_isName : CallOK Try.prog 43 s_proto_isName :=
  ok_of (c := c_proto_isName) Try.func43 (by kernel_rfl) (by kernel_rfl) rfl (by decide) (cfg_ok _ (.cons ok_proto_from .nil) .nil) mixed_ok fun t K h => r_proto_isName m_proto_from t K h

noncomputable def s_proto_Right : CallSpec := ⟨[.agg [.I .i64, .I .u8, .I .i64, .I .i64, .S, .I .i64]], [.one (.B)], fun t K h => m_proto_Right t.1 (fun r0 h => K (r0, ()) h) h⟩
noncomputable def c_proto_Right : Cfg := ⟨Try.prog, [(42, s_proto_from), (43, s_proto_isName)], 76, []⟩
theorem r_proto_Right (f_proto_from : Int → Int → Int → (Bool → Heap → Prop) → Heap → Prop) (f_proto_isName : ByteArray → (Bool → Heap → Prop) → Heap → Prop) (t : TupV [.agg [.I .i64, .I .u8, .I .i64, .I .i64, .S, .I .i64]]) (K : TupV [.one (.B)] → Heap → Prop) (h : Heap) :
    funP ⟨Try.prog, [(42, ⟨[.one (.I .i64), .one (.I .i64), .one (.I .i64)], [.one (.B)], fun t K h => f_proto_from t.1 t.2.1 t.2.2.1 (fun r0 h => K (r0, ()) h) h⟩), (43, ⟨[.one (.S)], [.one (.B)], fun t K h => f_proto_isName t.1 (fun r0 h => K (r0, ()) h) h⟩)], 76, []⟩ Try.f23 (.seq (.leaf) (.cut [3] [.one (.B)] [(5, 17)] (.leaf) (.cut [4] [.one (.B)] [(18, 25)] (.leaf) (.seq (.leaf) (.seq (.seq (.leaf) (.block (.cut [32] [.one (.B)] [(33, 34)] (.leaf) (.leaf)))) (.leaf)))))) (TupV.evs [.agg [.I .i64, .I .u8, .I .i64, .I .i64, .S, .I .i64]] t) [.one (.B)] K h = g_proto_Right f_proto_from f_proto_isName t.1 (fun r0 h => K (r0, ()) h) h := by kernel_rfl
theorem ok_proto_Right : CallOK Try.prog 23 s_proto_Right :=
  ok_of (c := c_proto_Right) Try.func23 (by kernel_rfl) (by kernel_rfl) rfl (by decide) (cfg_ok _ (.cons ok_proto_from (.cons ok_proto_isName .nil)) .nil) mixed_ok fun t K h => r_proto_Right m_proto_from m_proto_isName t K h

noncomputable def s_frame_New : CallSpec := ⟨[], [.one (.P)], fun _ K h => m_frame_New (fun r0 h => K (r0, ()) h) h⟩
noncomputable def c_frame_New : Cfg := ⟨Try.prog, [], 3, []⟩
theorem r_frame_New (t : TupV []) (K : TupV [.one (.P)] → Heap → Prop) (h : Heap) :
    funP ⟨Try.prog, [], 3, []⟩ Try.f24 (.leaf) (TupV.evs [] t) [.one (.P)] K h = g_frame_New (fun r0 h => K (r0, ()) h) h := by kernel_rfl
theorem ok_frame_New : CallOK Try.prog 24 s_frame_New :=
  ok_of (c := c_frame_New) Try.func24 (by kernel_rfl) (by kernel_rfl) rfl (by decide) (cfg_ok _ .nil .nil) mixed_ok fun t K h => r_frame_New t K h

noncomputable def s_client_New : CallSpec := ⟨[.agg [.I .i64, .I .i64, .I .i64], .one (.S)], [.one (.P), .one (.I .i64)], fun t K h => m_client_New t.1 t.2.1 (fun r0 r1 h => K (r0, r1, ()) h) h⟩
noncomputable def c_client_New : Cfg := ⟨Try.prog, [(23, s_proto_Right), (24, s_frame_New)], 45, []⟩
theorem r_client_New (f_proto_Right : (Int × Int × Int × Int × ByteArray × Int × Unit) → (Bool → Heap → Prop) → Heap → Prop) (f_frame_New : ((Option Addr) → Heap → Prop) → Heap → Prop) (t : TupV [.agg [.I .i64, .I .i64, .I .i64], .one (.S)]) (K : TupV [.one (.P), .one (.I .i64)] → Heap → Prop) (h : Heap) :
    funP ⟨Try.prog, [(23, ⟨[.agg [.I .i64, .I .u8, .I .i64, .I .i64, .S, .I .i64]], [.one (.B)], fun t K h => f_proto_Right t.1 (fun r0 h => K (r0, ()) h) h⟩), (24, ⟨[], [.one (.P)], fun _ K h => f_frame_New (fun r0 h => K (r0, ()) h) h⟩)], 45, []⟩ Try.f7 (.seq (.leaf) (.seq (.leaf) (.seq (.order (.take 2 (.take 4 (.take 1 (.take 5 (.fork 0 (.take 3 (.take 6 (.take 7 (.take 8 (.take 9 .done))))) 3 (.take 0 (.take 6 (.take 7 (.take 8 (.take 9 .done))))))))))) (.leaf)))) (TupV.evs [.agg [.I .i64, .I .i64, .I .i64], .one (.S)] t) [.one (.P), .one (.I .i64)] K h = g_client_New f_proto_Right f_frame_New t.1 t.2.1 (fun r0 r1 h => K (r0, r1, ()) h) h := by kernel_rfl
theorem ok_client_New : CallOK Try.prog 7 s_client_New :=
  ok_of (c := c_client_New) Try.func7 (by kernel_rfl) (by kernel_rfl) rfl (by decide) (cfg_ok _ (.cons ok_proto_Right (.cons ok_frame_New .nil)) .nil) mixed_ok fun t K h => r_client_New m_proto_Right m_frame_New t K h

noncomputable def s_client_Client_Waiting : CallSpec := ⟨[.one (.P)], [.one (.L)], fun t K h => m_client_Client_Waiting t.1 (fun r0 h => K (r0, ()) h) h⟩
noncomputable def c_client_Client_Waiting : Cfg := ⟨Try.prog, [(33, s_maps_Keys_map_int_int_int_int_), (32, s_slices_Sorted_int_)], 11, []⟩
theorem r_client_Client_Waiting (f_maps_Keys_map_int_int_int_int_ : (Option Nat) → (Value → Heap → Prop) → Heap → Prop) (f_slices_Sorted_int_ : Value → (Sl → Heap → Prop) → Heap → Prop) (t : TupV [.one (.P)]) (K : TupV [.one (.L)] → Heap → Prop) (h : Heap) :
    funP ⟨Try.prog, [(33, ⟨[.one (.M)], [.one (.V)], fun t K h => f_maps_Keys_map_int_int_int_int_ t.1 (fun r0 h => K (r0, ()) h) h⟩), (32, ⟨[.one (.V)], [.one (.L)], fun t K h => f_slices_Sorted_int_ t.1 (fun r0 h => K (r0, ()) h) h⟩)], 11, []⟩ Try.f13 (.leaf) (TupV.evs [.one (.P)] t) [.one (.L)] K h = g_client_Client_Waiting f_maps_Keys_map_int_int_int_int_ f_slices_Sorted_int_ t.1 (fun r0 h => K (r0, ()) h) h := by kernel_rfl
theorem ok_client_Client_Waiting : CallOK Try.prog 13 s_client_Client_Waiting :=
  ok_of (c := c_client_Client_Waiting) Try.func13 (by kernel_rfl) (by kernel_rfl) rfl (by decide) (cfg_ok _ (.cons ok_maps_Keys_map_int_int_int_int_ (.cons ok_slices_Sorted_int_ .nil)) .nil) mixed_ok fun t K h => r_client_Client_Waiting m_maps_Keys_map_int_int_int_int_ m_slices_Sorted_int_ t K h

noncomputable def s_client_Client_fall : CallSpec := ⟨[.one (.P), .one (.I .i64)], [], fun t K h => m_client_Client_fall t.1 t.2.1 (fun h => K (()) h) h⟩
noncomputable def c_client_Client_fall : Cfg := ⟨Try.prog, [], 20, []⟩
theorem r_client_Client_fall (t : TupV [.one (.P), .one (.I .i64)]) (K : TupV [] → Heap → Prop) (h : Heap) :
    funP ⟨Try.prog, [], 20, []⟩ Try.f44 (.leaf) (TupV.evs [.one (.P), .one (.I .i64)] t) [] K h = g_client_Client_fall t.1 t.2.1 (fun h => K (()) h) h := by kernel_rfl
theorem ok_client_Client_fall : CallOK Try.prog 44 s_client_Client_fall :=
  ok_of (c := c_client_Client_fall) Try.func44 (by kernel_rfl) (by kernel_rfl) rfl (by decide) (cfg_ok _ .nil .nil) mixed_ok fun t K h => r_client_Client_fall t K h

noncomputable def s_proto_writer_numbers : CallSpec := ⟨[.one (.P), .one (.L)], [], fun t K h => m_proto_writer_numbers t.1 t.2.1 (fun h => K (()) h) h⟩
noncomputable def c_proto_writer_numbers : Cfg := ⟨Try.prog, [], 31, []⟩
theorem r_proto_writer_numbers (t : TupV [.one (.P), .one (.L)]) (K : TupV [] → Heap → Prop) (h : Heap) :
    funP ⟨Try.prog, [], 31, []⟩ Try.f30 (.seq (.leaf) (.block (.loop [9] [.one (.I .i64)] [(5, 6), (10, 30)] (.seq (.leaf) (.seq (.leaf) (.seq (.block (.seq (.leaf) (.seq (.leaf) (.block (.loop [6] [.one (.I .i64)] [(13, 29)] (.seq (.leaf) (.seq (.block (.order (.take 0 (.take 1 (.take 2 (.take 3 (.take 5 (.take 6 (.take 7 (.take 8 (.take 4 (.take 9 (.take 10 (.take 11 (.take 12 (.take 13 .done)))))))))))))))) (.leaf)))))))) (.leaf))))))) (TupV.evs [.one (.P), .one (.L)] t) [] K h = g_proto_writer_numbers t.1 t.2.1 (fun h => K (()) h) h := by kernel_rfl
theorem ok_proto_writer_numbers : CallOK Try.prog 30 s_proto_writer_numbers :=
  ok_of (c := c_proto_writer_numbers) Try.func30 (by kernel_rfl) (by kernel_rfl) rfl (by decide) (cfg_ok _ .nil .nil) mixed_ok fun t K h => r_proto_writer_numbers t K h

noncomputable def s_proto_Request : CallSpec := ⟨[.agg [.I .i64, .I .u8, .I .i64, .I .i64, .S, .I .i64]], [.one (.L), .one (.I .i64)], fun t K h => m_proto_Request t.1 (fun r0 r1 h => K (r0, r1, ()) h) h⟩
noncomputable def c_proto_Request : Cfg := ⟨Try.prog, [(23, s_proto_Right), (30, s_proto_writer_numbers)], 33, []⟩
theorem r_proto_Request (f_proto_Right : (Int × Int × Int × Int × ByteArray × Int × Unit) → (Bool → Heap → Prop) → Heap → Prop) (f_proto_writer_numbers : (Option Addr) → Sl → (Heap → Prop) → Heap → Prop) (t : TupV [.agg [.I .i64, .I .u8, .I .i64, .I .i64, .S, .I .i64]]) (K : TupV [.one (.L), .one (.I .i64)] → Heap → Prop) (h : Heap) :
    funP ⟨Try.prog, [(23, ⟨[.agg [.I .i64, .I .u8, .I .i64, .I .i64, .S, .I .i64]], [.one (.B)], fun t K h => f_proto_Right t.1 (fun r0 h => K (r0, ()) h) h⟩), (30, ⟨[.one (.P), .one (.L)], [], fun t K h => f_proto_writer_numbers t.1 t.2.1 (fun h => K (()) h) h⟩)], 33, []⟩ Try.f56 (.seq (.leaf) (.seq (.leaf) (.seq (.leaf) (.seq (.leaf) (.seq (.order (.take 0 (.take 2 (.take 8 (.take 1 (.take 3 (.take 4 (.take 5 (.take 9 (.take 6 (.take 7 (.take 10 (.take 11 (.take 12 .done)))))))))))))) (.leaf)))))) (TupV.evs [.agg [.I .i64, .I .u8, .I .i64, .I .i64, .S, .I .i64]] t) [.one (.L), .one (.I .i64)] K h = g_proto_Request f_proto_Right f_proto_writer_numbers t.1 (fun r0 r1 h => K (r0, r1, ()) h) h := by kernel_rfl
theorem ok_proto_Request : CallOK Try.prog 56 s_proto_Request :=
  ok_of (c := c_proto_Request) Try.func56 (by kernel_rfl) (by kernel_rfl) rfl (by decide) (cfg_ok _ (.cons ok_proto_Right (.cons ok_proto_writer_numbers .nil)) .nil) mixed_ok fun t K h => r_proto_Request m_proto_Right m_proto_writer_numbers t K h

noncomputable def s_frame_Frame : CallSpec := ⟨[.one (.L)], [.one (.L), .one (.I .i64)], fun t K h => m_frame_Frame t.1 (fun r0 r1 h => K (r0, r1, ()) h) h⟩
noncomputable def c_frame_Frame : Cfg := ⟨Try.prog, [], 27, []⟩
theorem r_frame_Frame (t : TupV [.one (.L)]) (K : TupV [.one (.L), .one (.I .i64)] → Heap → Prop) (h : Heap) :
    funP ⟨Try.prog, [], 27, []⟩ Try.f11 (.leaf) (TupV.evs [.one (.L)] t) [.one (.L), .one (.I .i64)] K h = g_frame_Frame t.1 (fun r0 r1 h => K (r0, r1, ()) h) h := by kernel_rfl
theorem ok_frame_Frame : CallOK Try.prog 11 s_frame_Frame :=
  ok_of (c := c_frame_Frame) Try.func11 (by kernel_rfl) (by kernel_rfl) rfl (by decide) (cfg_ok _ .nil .nil) mixed_ok fun t K h => r_frame_Frame t K h

noncomputable def s_frame_Frames : CallSpec := ⟨[.one (.L)], [.one (.L), .one (.I .i64)], fun t K h => m_frame_Frames t.1 (fun r0 r1 h => K (r0, r1, ()) h) h⟩
noncomputable def c_frame_Frames : Cfg := ⟨Try.prog, [(11, s_frame_Frame)], 28, []⟩
theorem r_frame_Frames (f_frame_Frame : Sl → (Sl → Int → Heap → Prop) → Heap → Prop) (t : TupV [.one (.L)]) (K : TupV [.one (.L), .one (.I .i64)] → Heap → Prop) (h : Heap) :
    funP ⟨Try.prog, [(11, ⟨[.one (.L)], [.one (.L), .one (.I .i64)], fun t K h => f_frame_Frame t.1 (fun r0 r1 h => K (r0, r1, ()) h) h⟩)], 28, []⟩ Try.f57 (.seq (.leaf) (.seq (.leaf) (.seq (.seq (.leaf) (.block (.loop [4, 11] [.one (.L), .one (.I .i64)] [(2, 3), (6, 8), (12, 26)] (.leaf)))) (.leaf)))) (TupV.evs [.one (.L)] t) [.one (.L), .one (.I .i64)] K h = g_frame_Frames f_frame_Frame t.1 (fun r0 r1 h => K (r0, r1, ()) h) h := by kernel_rfl
theorem ok_frame_Frames : CallOK Try.prog 57 s_frame_Frames :=
  ok_of (c := c_frame_Frames) Try.func57 (by kernel_rfl) (by kernel_rfl) rfl (by decide) (cfg_ok _ (.cons ok_frame_Frame .nil) .nil) mixed_ok fun t K h => r_frame_Frames m_frame_Frame t K h

noncomputable def s_proto_All : CallSpec := ⟨[.one (.L)], [.one (.L), .one (.I .i64)], fun t K h => m_proto_All t.1 (fun r0 r1 h => K (r0, r1, ()) h) h⟩
noncomputable def c_proto_All : Cfg := ⟨Try.prog, [(56, s_proto_Request), (57, s_frame_Frames)], 32, []⟩
theorem r_proto_All (f_proto_Request : (Int × Int × Int × Int × ByteArray × Int × Unit) → (Sl → Int → Heap → Prop) → Heap → Prop) (f_frame_Frames : Sl → (Sl → Int → Heap → Prop) → Heap → Prop) (t : TupV [.one (.L)]) (K : TupV [.one (.L), .one (.I .i64)] → Heap → Prop) (h : Heap) :
    funP ⟨Try.prog, [(56, ⟨[.agg [.I .i64, .I .u8, .I .i64, .I .i64, .S, .I .i64]], [.one (.L), .one (.I .i64)], fun t K h => f_proto_Request t.1 (fun r0 r1 h => K (r0, r1, ()) h) h⟩), (57, ⟨[.one (.L)], [.one (.L), .one (.I .i64)], fun t K h => f_frame_Frames t.1 (fun r0 r1 h => K (r0, r1, ()) h) h⟩)], 32, []⟩ Try.f45 (.seq (.leaf) (.seq (.leaf) (.seq (.seq (.leaf) (.block (.loop [4, 11] [.one (.L), .one (.I .i64)] [(2, 3), (6, 8), (12, 27)] (.leaf)))) (.leaf)))) (TupV.evs [.one (.L)] t) [.one (.L), .one (.I .i64)] K h = g_proto_All f_proto_Request f_frame_Frames t.1 (fun r0 r1 h => K (r0, r1, ()) h) h := by kernel_rfl
theorem ok_proto_All : CallOK Try.prog 45 s_proto_All :=
  ok_of (c := c_proto_All) Try.func45 (by kernel_rfl) (by kernel_rfl) rfl (by decide) (cfg_ok _ (.cons ok_proto_Request (.cons ok_frame_Frames .nil)) .nil) mixed_ok fun t K h => r_proto_All m_proto_Request m_frame_Frames t K h

noncomputable def s_client_Client_queue : CallSpec := ⟨[.one (.P), .agg [.I .i64, .I .u8, .I .i64, .I .i64, .S, .I .i64]], [], fun t K h => m_client_Client_queue t.1 t.2.1 (fun h => K (()) h) h⟩
noncomputable def c_client_Client_queue : Cfg := ⟨Try.prog, [(45, s_proto_All)], 21, []⟩
theorem r_client_Client_queue (f_proto_All : Sl → (Sl → Int → Heap → Prop) → Heap → Prop) (t : TupV [.one (.P), .agg [.I .i64, .I .u8, .I .i64, .I .i64, .S, .I .i64]]) (K : TupV [] → Heap → Prop) (h : Heap) :
    funP ⟨Try.prog, [(45, ⟨[.one (.L)], [.one (.L), .one (.I .i64)], fun t K h => f_proto_All t.1 (fun r0 r1 h => K (r0, r1, ()) h) h⟩)], 21, []⟩ Try.f27 (.leaf) (TupV.evs [.one (.P), .agg [.I .i64, .I .u8, .I .i64, .I .i64, .S, .I .i64]] t) [] K h = g_client_Client_queue f_proto_All t.1 t.2.1 (fun h => K (()) h) h := by kernel_rfl
theorem ok_client_Client_queue : CallOK Try.prog 27 s_client_Client_queue :=
  ok_of (c := c_client_Client_queue) Try.func27 (by kernel_rfl) (by kernel_rfl) rfl (by decide) (cfg_ok _ (.cons ok_proto_All .nil) .nil) mixed_ok fun t K h => r_client_Client_queue m_proto_All t K h

noncomputable def s_client_Client_Up_1 : CallSpec := ⟨[.one (.P)], [.one (.I .i64)], fun t K h => m_client_Client_Up_1 t.1 (fun r0 h => K (r0, ()) h) h⟩
noncomputable def c_client_Client_Up_1 : Cfg := ⟨Try.prog, [(27, s_client_Client_queue)], 24, []⟩
theorem r_client_Client_Up_1 (f_client_Client_queue : (Option Addr) → (Int × Int × Int × Int × ByteArray × Int × Unit) → (Heap → Prop) → Heap → Prop) (t : TupV [.one (.P)]) (K : TupV [.one (.I .i64)] → Heap → Prop) (h : Heap) :
    funP ⟨Try.prog, [(27, ⟨[.one (.P), .agg [.I .i64, .I .u8, .I .i64, .I .i64, .S, .I .i64]], [], fun t K h => f_client_Client_queue t.1 t.2.1 (fun h => K (()) h) h⟩)], 24, []⟩ Try.f26 (.seq (.leaf) (.seq (.leaf) (.seq (.order (.take 0 (.take 1 (.take 2 (.take 3 (.take 4 (.take 5 (.take 6 (.take 7 (.take 8 (.take 9 (.take 10 (.take 11 (.take 12 .done)))))))))))))) (.seq (.order (.take 0 (.take 1 (.take 2 (.take 3 (.take 4 (.take 5 (.take 6 .done)))))))) (.leaf))))) (TupV.evs [.one (.P)] t) [.one (.I .i64)] K h = g_client_Client_Up_1 f_client_Client_queue t.1 (fun r0 h => K (r0, ()) h) h := by kernel_rfl
theorem ok_client_Client_Up_1 : CallOK Try.prog 26 s_client_Client_Up_1 :=
  ok_of (c := c_client_Client_Up_1) Try.func26 (by kernel_rfl) (by kernel_rfl) rfl (by decide) (cfg_ok _ (.cons ok_client_Client_queue .nil) .nil) mixed_ok fun t K h => r_client_Client_Up_1 m_client_Client_queue t K h

noncomputable def s_client_Client_at__client_Client_Up_1 : CallSpec := ⟨[.one (.P), .one (.I .i64), .clo 26 [.P]], [.one (.I .i64)], fun t K h => m_client_Client_at__client_Client_Up_1 t.1 t.2.1 t.2.2.1 (fun r0 h => K (r0, ()) h) h⟩
noncomputable def c_client_Client_at__client_Client_Up_1 : Cfg := ⟨Try.prog, [(13, s_client_Client_Waiting), (44, s_client_Client_fall), (26, s_client_Client_Up_1)], 57, []⟩
theorem r_client_Client_at__client_Client_Up_1 (f_client_Client_Waiting : (Option Addr) → (Sl → Heap → Prop) → Heap → Prop) (f_client_Client_fall : (Option Addr) → Int → (Heap → Prop) → Heap → Prop) (f_client_Client_Up_1 : (Option Addr) → (Int → Heap → Prop) → Heap → Prop) (t : TupV [.one (.P), .one (.I .i64), .clo 26 [.P]]) (K : TupV [.one (.I .i64)] → Heap → Prop) (h : Heap) :
    funP ⟨Try.prog, [(13, ⟨[.one (.P)], [.one (.L)], fun t K h => f_client_Client_Waiting t.1 (fun r0 h => K (r0, ()) h) h⟩), (44, ⟨[.one (.P), .one (.I .i64)], [], fun t K h => f_client_Client_fall t.1 t.2.1 (fun h => K (()) h) h⟩), (26, ⟨[.one (.P)], [.one (.I .i64)], fun t K h => f_client_Client_Up_1 t.1 (fun r0 h => K (r0, ()) h) h⟩)], 57, []⟩ Try.f25 (.seq (.leaf) (.seq (.leaf) (.seq (.leaf) (.seq (.seq (.leaf) (.block (.loop [33] [.one (.I .i64)] [(8, 8), (34, 54)] (.seq (.leaf) (.seq (.leaf) (.seq (.block (.seq (.leaf) (.seq (.order (.take 0 (.take 1 (.take 2 (.take 3 (.take 5 (.take 8 (.take 9 (.take 10 (.take 11 (.take 4 (.take 12 (.take 6 (.take 7 (.take 13 .done))))))))))))))) (.leaf)))) (.leaf))))))) (.leaf))))) (TupV.evs [.one (.P), .one (.I .i64), .clo 26 [.P]] t) [.one (.I .i64)] K h = g_client_Client_at__client_Client_Up_1 f_client_Client_Waiting f_client_Client_fall f_client_Client_Up_1 t.1 t.2.1 t.2.2.1 (fun r0 h => K (r0, ()) h) h := by kernel_rfl
theorem ok_client_Client_at__client_Client_Up_1 : CallOK Try.prog 25 s_client_Client_at__client_Client_Up_1 :=
  ok_of (c := c_client_Client_at__client_Client_Up_1) Try.func25 (by kernel_rfl) (by kernel_rfl) rfl (by decide) (cfg_ok _ (.cons ok_client_Client_Waiting (.cons ok_client_Client_fall (.cons ok_client_Client_Up_1 .nil))) .nil) mixed_ok fun t K h => r_client_Client_at__client_Client_Up_1 m_client_Client_Waiting m_client_Client_fall m_client_Client_Up_1 t K h

noncomputable def s_client_Client_Up : CallSpec := ⟨[.one (.P), .one (.I .i64)], [.one (.I .i64)], fun t K h => m_client_Client_Up t.1 t.2.1 (fun r0 h => K (r0, ()) h) h⟩
noncomputable def c_client_Client_Up : Cfg := ⟨Try.prog, [(25, s_client_Client_at__client_Client_Up_1)], 9, []⟩
theorem r_client_Client_Up (f_client_Client_at__client_Client_Up_1 : (Option Addr) → Int → (Option Addr × Unit) → (Int → Heap → Prop) → Heap → Prop) (t : TupV [.one (.P), .one (.I .i64)]) (K : TupV [.one (.I .i64)] → Heap → Prop) (h : Heap) :
    funP ⟨Try.prog, [(25, ⟨[.one (.P), .one (.I .i64), .clo 26 [.P]], [.one (.I .i64)], fun t K h => f_client_Client_at__client_Client_Up_1 t.1 t.2.1 t.2.2.1 (fun r0 h => K (r0, ()) h) h⟩)], 9, []⟩ Try.f8 (.leaf) (TupV.evs [.one (.P), .one (.I .i64)] t) [.one (.I .i64)] K h = g_client_Client_Up f_client_Client_at__client_Client_Up_1 t.1 t.2.1 (fun r0 h => K (r0, ()) h) h := by kernel_rfl
theorem ok_client_Client_Up : CallOK Try.prog 8 s_client_Client_Up :=
  ok_of (c := c_client_Client_Up) Try.func8 (by kernel_rfl) (by kernel_rfl) rfl (by decide) (cfg_ok _ (.cons ok_client_Client_at__client_Client_Up_1 .nil) .nil) mixed_ok fun t K h => r_client_Client_Up m_client_Client_at__client_Client_Up_1 t K h

noncomputable def s_client_Client_Ask_1 : CallSpec := ⟨[.one (.P), .one (.P), .one (.P), .one (.P), .one (.P)], [.one (.I .i64)], fun t K h => m_client_Client_Ask_1 t.1 t.2.1 t.2.2.1 t.2.2.2.1 t.2.2.2.2.1 (fun r0 h => K (r0, ()) h) h⟩
noncomputable def c_client_Client_Ask_1 : Cfg := ⟨Try.prog, [(23, s_proto_Right), (27, s_client_Client_queue)], 55, []⟩
theorem r_client_Client_Ask_1 (f_proto_Right : (Int × Int × Int × Int × ByteArray × Int × Unit) → (Bool → Heap → Prop) → Heap → Prop) (f_client_Client_queue : (Option Addr) → (Int × Int × Int × Int × ByteArray × Int × Unit) → (Heap → Prop) → Heap → Prop) (t : TupV [.one (.P), .one (.P), .one (.P), .one (.P), .one (.P)]) (K : TupV [.one (.I .i64)] → Heap → Prop) (h : Heap) :
    funP ⟨Try.prog, [(23, ⟨[.agg [.I .i64, .I .u8, .I .i64, .I .i64, .S, .I .i64]], [.one (.B)], fun t K h => f_proto_Right t.1 (fun r0 h => K (r0, ()) h) h⟩), (27, ⟨[.one (.P), .agg [.I .i64, .I .u8, .I .i64, .I .i64, .S, .I .i64]], [], fun t K h => f_client_Client_queue t.1 t.2.1 (fun h => K (()) h) h⟩)], 55, []⟩ Try.f28 (.seq (.leaf) (.seq (.leaf) (.seq (.leaf) (.seq (.order (.take 0 (.take 1 (.take 2 (.take 3 (.take 4 (.take 5 (.take 6 (.take 7 (.take 8 (.take 9 (.take 10 .done)))))))))))) (.seq (.leaf) (.seq (.order (.take 0 (.take 1 (.take 2 (.take 3 (.take 4 (.take 5 (.take 6 .done)))))))) (.leaf))))))) (TupV.evs [.one (.P), .one (.P), .one (.P), .one (.P), .one (.P)] t) [.one (.I .i64)] K h = g_client_Client_Ask_1 f_proto_Right f_client_Client_queue t.1 t.2.1 t.2.2.1 t.2.2.2.1 t.2.2.2.2.1 (fun r0 h => K (r0, ()) h) h := by kernel_rfl
theorem ok_client_Client_Ask_1 : CallOK Try.prog 28 s_client_Client_Ask_1 :=
  ok_of (c := c_client_Client_Ask_1) Try.func28 (by kernel_rfl) (by kernel_rfl) rfl (by decide) (cfg_ok _ (.cons ok_proto_Right (.cons ok_client_Client_queue .nil)) .nil) mixed_ok fun t K h => r_client_Client_Ask_1 m_proto_Right m_client_Client_queue t K h

noncomputable def s_client_Client_at__client_Client_Ask_1 : CallSpec := ⟨[.one (.P), .one (.I .i64), .clo 28 [.P, .P, .P, .P, .P]], [.one (.I .i64)], fun t K h => m_client_Client_at__client_Client_Ask_1 t.1 t.2.1 t.2.2.1 (fun r0 h => K (r0, ()) h) h⟩
noncomputable def c_client_Client_at__client_Client_Ask_1 : Cfg := ⟨Try.prog, [(13, s_client_Client_Waiting), (44, s_client_Client_fall), (28, s_client_Client_Ask_1)], 57, []⟩
theorem r_client_Client_at__client_Client_Ask_1 (f_client_Client_Waiting : (Option Addr) → (Sl → Heap → Prop) → Heap → Prop) (f_client_Client_fall : (Option Addr) → Int → (Heap → Prop) → Heap → Prop) (f_client_Client_Ask_1 : (Option Addr) → (Option Addr) → (Option Addr) → (Option Addr) → (Option Addr) → (Int → Heap → Prop) → Heap → Prop) (t : TupV [.one (.P), .one (.I .i64), .clo 28 [.P, .P, .P, .P, .P]]) (K : TupV [.one (.I .i64)] → Heap → Prop) (h : Heap) :
    funP ⟨Try.prog, [(13, ⟨[.one (.P)], [.one (.L)], fun t K h => f_client_Client_Waiting t.1 (fun r0 h => K (r0, ()) h) h⟩), (44, ⟨[.one (.P), .one (.I .i64)], [], fun t K h => f_client_Client_fall t.1 t.2.1 (fun h => K (()) h) h⟩), (28, ⟨[.one (.P), .one (.P), .one (.P), .one (.P), .one (.P)], [.one (.I .i64)], fun t K h => f_client_Client_Ask_1 t.1 t.2.1 t.2.2.1 t.2.2.2.1 t.2.2.2.2.1 (fun r0 h => K (r0, ()) h) h⟩)], 57, []⟩ Try.f25 (.seq (.leaf) (.seq (.leaf) (.seq (.leaf) (.seq (.seq (.leaf) (.block (.loop [33] [.one (.I .i64)] [(8, 8), (34, 54)] (.seq (.leaf) (.seq (.leaf) (.seq (.block (.seq (.leaf) (.seq (.order (.take 0 (.take 1 (.take 2 (.take 3 (.take 5 (.take 8 (.take 9 (.take 10 (.take 11 (.take 4 (.take 12 (.take 6 (.take 7 (.take 13 .done))))))))))))))) (.leaf)))) (.leaf))))))) (.leaf))))) (TupV.evs [.one (.P), .one (.I .i64), .clo 28 [.P, .P, .P, .P, .P]] t) [.one (.I .i64)] K h = g_client_Client_at__client_Client_Ask_1 f_client_Client_Waiting f_client_Client_fall f_client_Client_Ask_1 t.1 t.2.1 t.2.2.1 (fun r0 h => K (r0, ()) h) h := by kernel_rfl
theorem ok_client_Client_at__client_Client_Ask_1 : CallOK Try.prog 25 s_client_Client_at__client_Client_Ask_1 :=
  ok_of (c := c_client_Client_at__client_Client_Ask_1) Try.func25 (by kernel_rfl) (by kernel_rfl) rfl (by decide) (cfg_ok _ (.cons ok_client_Client_Waiting (.cons ok_client_Client_fall (.cons ok_client_Client_Ask_1 .nil))) .nil) mixed_ok fun t K h => r_client_Client_at__client_Client_Ask_1 m_client_Client_Waiting m_client_Client_fall m_client_Client_Ask_1 t K h

noncomputable def s_client_Client_Ask : CallSpec := ⟨[.one (.P), .one (.I .i64), .agg [.I .i64, .I .u8, .I .i64, .I .i64, .S, .I .i64]], [.one (.I .i64), .one (.B), .one (.I .i64)], fun t K h => m_client_Client_Ask t.1 t.2.1 t.2.2.1 (fun r0 r1 r2 h => K (r0, r1, r2, ()) h) h⟩
noncomputable def c_client_Client_Ask : Cfg := ⟨Try.prog, [(25, s_client_Client_at__client_Client_Ask_1)], 16, []⟩
theorem r_client_Client_Ask (f_client_Client_at__client_Client_Ask_1 : (Option Addr) → Int → (Option Addr × Option Addr × Option Addr × Option Addr × Option Addr × Unit) → (Int → Heap → Prop) → Heap → Prop) (t : TupV [.one (.P), .one (.I .i64), .agg [.I .i64, .I .u8, .I .i64, .I .i64, .S, .I .i64]]) (K : TupV [.one (.I .i64), .one (.B), .one (.I .i64)] → Heap → Prop) (h : Heap) :
    funP ⟨Try.prog, [(25, ⟨[.one (.P), .one (.I .i64), .clo 28 [.P, .P, .P, .P, .P]], [.one (.I .i64)], fun t K h => f_client_Client_at__client_Client_Ask_1 t.1 t.2.1 t.2.2.1 (fun r0 h => K (r0, ()) h) h⟩)], 16, []⟩ Try.f9 (.seq (.leaf) (.seq (.leaf) (.seq (.order (.take 2 (.take 0 (.take 1 (.take 3 (.take 4 (.take 5 .done))))))) (.leaf)))) (TupV.evs [.one (.P), .one (.I .i64), .agg [.I .i64, .I .u8, .I .i64, .I .i64, .S, .I .i64]] t) [.one (.I .i64), .one (.B), .one (.I .i64)] K h = g_client_Client_Ask f_client_Client_at__client_Client_Ask_1 t.1 t.2.1 t.2.2.1 (fun r0 r1 r2 h => K (r0, r1, r2, ()) h) h := by kernel_rfl
theorem ok_client_Client_Ask : CallOK Try.prog 9 s_client_Client_Ask :=
  ok_of (c := c_client_Client_Ask) Try.func9 (by kernel_rfl) (by kernel_rfl) rfl (by decide) (cfg_ok _ (.cons ok_client_Client_at__client_Client_Ask_1 .nil) .nil) mixed_ok fun t K h => r_client_Client_Ask m_client_Client_at__client_Client_Ask_1 t K h

noncomputable def s_proto_RightAnswer : CallSpec := ⟨[.agg [.I .i64, .I .u8, .I .i64, .I .i64, .I .i64]], [.one (.B)], fun t K h => m_proto_RightAnswer t.1 (fun r0 h => K (r0, ()) h) h⟩
noncomputable def c_proto_RightAnswer : Cfg := ⟨Try.prog, [(42, s_proto_from)], 31, []⟩
theorem r_proto_RightAnswer (f_proto_from : Int → Int → Int → (Bool → Heap → Prop) → Heap → Prop) (t : TupV [.agg [.I .i64, .I .u8, .I .i64, .I .i64, .I .i64]]) (K : TupV [.one (.B)] → Heap → Prop) (h : Heap) :
    funP ⟨Try.prog, [(42, ⟨[.one (.I .i64), .one (.I .i64), .one (.I .i64)], [.one (.B)], fun t K h => f_proto_from t.1 t.2.1 t.2.2.1 (fun r0 h => K (r0, ()) h) h⟩)], 31, []⟩ Try.f29 (.leaf) (TupV.evs [.agg [.I .i64, .I .u8, .I .i64, .I .i64, .I .i64]] t) [.one (.B)] K h = g_proto_RightAnswer f_proto_from t.1 (fun r0 h => K (r0, ()) h) h := by kernel_rfl
theorem ok_proto_RightAnswer : CallOK Try.prog 29 s_proto_RightAnswer :=
  ok_of (c := c_proto_RightAnswer) Try.func29 (by kernel_rfl) (by kernel_rfl) rfl (by decide) (cfg_ok _ (.cons ok_proto_from .nil) .nil) mixed_ok fun t K h => r_proto_RightAnswer m_proto_from t K h

noncomputable def s_proto_Answer : CallSpec := ⟨[.agg [.I .i64, .I .u8, .I .i64, .I .i64, .I .i64]], [.one (.L), .one (.I .i64)], fun t K h => m_proto_Answer t.1 (fun r0 r1 h => K (r0, r1, ()) h) h⟩
noncomputable def c_proto_Answer : Cfg := ⟨Try.prog, [(29, s_proto_RightAnswer), (30, s_proto_writer_numbers)], 24, []⟩
theorem r_proto_Answer (f_proto_RightAnswer : (Int × Int × Int × Int × Int × Unit) → (Bool → Heap → Prop) → Heap → Prop) (f_proto_writer_numbers : (Option Addr) → Sl → (Heap → Prop) → Heap → Prop) (t : TupV [.agg [.I .i64, .I .u8, .I .i64, .I .i64, .I .i64]]) (K : TupV [.one (.L), .one (.I .i64)] → Heap → Prop) (h : Heap) :
    funP ⟨Try.prog, [(29, ⟨[.agg [.I .i64, .I .u8, .I .i64, .I .i64, .I .i64]], [.one (.B)], fun t K h => f_proto_RightAnswer t.1 (fun r0 h => K (r0, ()) h) h⟩), (30, ⟨[.one (.P), .one (.L)], [], fun t K h => f_proto_writer_numbers t.1 t.2.1 (fun h => K (()) h) h⟩)], 24, []⟩ Try.f10 (.leaf) (TupV.evs [.agg [.I .i64, .I .u8, .I .i64, .I .i64, .I .i64]] t) [.one (.L), .one (.I .i64)] K h = g_proto_Answer f_proto_RightAnswer f_proto_writer_numbers t.1 (fun r0 r1 h => K (r0, r1, ()) h) h := by kernel_rfl
theorem ok_proto_Answer : CallOK Try.prog 10 s_proto_Answer :=
  ok_of (c := c_proto_Answer) Try.func10 (by kernel_rfl) (by kernel_rfl) rfl (by decide) (cfg_ok _ (.cons ok_proto_RightAnswer (.cons ok_proto_writer_numbers .nil)) .nil) mixed_ok fun t K h => r_proto_Answer m_proto_RightAnswer m_proto_writer_numbers t K h

noncomputable def s_stream_Net_at : CallSpec := ⟨[.one (.P), .one (.I .i64), .one (.I .i64), .one (.I .i64)], [.one (.P), .one (.I .i64)], fun t K h => m_stream_Net_at t.1 t.2.1 t.2.2.1 t.2.2.2.1 (fun r0 r1 h => K (r0, r1, ()) h) h⟩
noncomputable def c_stream_Net_at : Cfg := ⟨Try.prog, [], 53, []⟩
theorem r_stream_Net_at (t : TupV [.one (.P), .one (.I .i64), .one (.I .i64), .one (.I .i64)]) (K : TupV [.one (.P), .one (.I .i64)] → Heap → Prop) (h : Heap) :
    funP ⟨Try.prog, [], 53, []⟩ Try.f31 (.leaf) (TupV.evs [.one (.P), .one (.I .i64), .one (.I .i64), .one (.I .i64)] t) [.one (.P), .one (.I .i64)] K h = g_stream_Net_at t.1 t.2.1 t.2.2.1 t.2.2.2.1 (fun r0 r1 h => K (r0, r1, ()) h) h := by kernel_rfl
theorem ok_stream_Net_at : CallOK Try.prog 31 s_stream_Net_at :=
  ok_of (c := c_stream_Net_at) Try.func31 (by kernel_rfl) (by kernel_rfl) rfl (by decide) (cfg_ok _ .nil .nil) mixed_ok fun t K h => r_stream_Net_at t K h

noncomputable def s_stream_Net_Write : CallSpec := ⟨[.one (.P), .one (.I .i64), .one (.I .i64), .one (.L)], [.one (.I .i64)], fun t K h => m_stream_Net_Write t.1 t.2.1 t.2.2.1 t.2.2.2.1 (fun r0 h => K (r0, ()) h) h⟩
noncomputable def c_stream_Net_Write : Cfg := ⟨Try.prog, [(31, s_stream_Net_at)], 51, []⟩
theorem r_stream_Net_Write (f_stream_Net_at : (Option Addr) → Int → Int → Int → ((Option Addr) → Int → Heap → Prop) → Heap → Prop) (t : TupV [.one (.P), .one (.I .i64), .one (.I .i64), .one (.L)]) (K : TupV [.one (.I .i64)] → Heap → Prop) (h : Heap) :
    funP ⟨Try.prog, [(31, ⟨[.one (.P), .one (.I .i64), .one (.I .i64), .one (.I .i64)], [.one (.P), .one (.I .i64)], fun t K h => f_stream_Net_at t.1 t.2.1 t.2.2.1 t.2.2.2.1 (fun r0 r1 h => K (r0, r1, ()) h) h⟩)], 51, []⟩ Try.f12 (.leaf) (TupV.evs [.one (.P), .one (.I .i64), .one (.I .i64), .one (.L)] t) [.one (.I .i64)] K h = g_stream_Net_Write f_stream_Net_at t.1 t.2.1 t.2.2.1 t.2.2.2.1 (fun r0 h => K (r0, ()) h) h := by kernel_rfl
theorem ok_stream_Net_Write : CallOK Try.prog 12 s_stream_Net_Write :=
  ok_of (c := c_stream_Net_Write) Try.func12 (by kernel_rfl) (by kernel_rfl) rfl (by decide) (cfg_ok _ (.cons ok_stream_Net_at .nil) .nil) mixed_ok fun t K h => r_stream_Net_Write m_stream_Net_at t K h

noncomputable def s_spillwaytop_which : CallSpec := ⟨[.one (.I .i64), .one (.I .i64)], [.one (.I .i64)], fun t K h => m_spillwaytop_which t.1 t.2.1 (fun r0 h => K (r0, ()) h) h⟩
noncomputable def c_spillwaytop_which : Cfg := ⟨Try.prog, [], 14, []⟩
theorem r_spillwaytop_which (t : TupV [.one (.I .i64), .one (.I .i64)]) (K : TupV [.one (.I .i64)] → Heap → Prop) (h : Heap) :
    funP ⟨Try.prog, [], 14, []⟩ Try.f14 (.leaf) (TupV.evs [.one (.I .i64), .one (.I .i64)] t) [.one (.I .i64)] K h = g_spillwaytop_which t.1 t.2.1 (fun r0 h => K (r0, ()) h) h := by kernel_rfl
theorem ok_spillwaytop_which : CallOK Try.prog 14 s_spillwaytop_which :=
  ok_of (c := c_spillwaytop_which) Try.func14 (by kernel_rfl) (by kernel_rfl) rfl (by decide) (cfg_ok _ .nil .nil) mixed_ok fun t K h => r_spillwaytop_which t K h

noncomputable def s_slices_Clone_byte_byte_ : CallSpec := ⟨[.one (.L)], [.one (.L)], fun t K h => m_slices_Clone_byte_byte_ t.1 (fun r0 h => K (r0, ()) h) h⟩
noncomputable def c_slices_Clone_byte_byte_ : Cfg := ⟨Try.prog, [], 8, []⟩
theorem r_slices_Clone_byte_byte_ (t : TupV [.one (.L)]) (K : TupV [.one (.L)] → Heap → Prop) (h : Heap) :
    funP ⟨Try.prog, [], 8, []⟩ Try.f34 (.leaf) (TupV.evs [.one (.L)] t) [.one (.L)] K h = g_slices_Clone_byte_byte_ t.1 (fun r0 h => K (r0, ()) h) h := by kernel_rfl
theorem ok_slices_Clone_byte_byte_ : CallOK Try.prog 34 s_slices_Clone_byte_byte_ :=
  ok_of (c := c_slices_Clone_byte_byte_) Try.func34 (by kernel_rfl) (by kernel_rfl) rfl (by decide) (cfg_ok _ .nil .nil) mixed_ok fun t K h => r_slices_Clone_byte_byte_ t K h

noncomputable def s_stream_Net_Move : CallSpec := ⟨[.one (.P), .one (.I .i64), .one (.I .i64), .one (.I .i64)], [.one (.I .i64), .one (.I .i64)], fun t K h => m_stream_Net_Move t.1 t.2.1 t.2.2.1 t.2.2.2.1 (fun r0 r1 h => K (r0, r1, ()) h) h⟩
noncomputable def c_stream_Net_Move : Cfg := ⟨Try.prog, [(31, s_stream_Net_at), (34, s_slices_Clone_byte_byte_)], 62, []⟩
theorem r_stream_Net_Move (f_stream_Net_at : (Option Addr) → Int → Int → Int → ((Option Addr) → Int → Heap → Prop) → Heap → Prop) (f_slices_Clone_byte_byte_ : Sl → (Sl → Heap → Prop) → Heap → Prop) (t : TupV [.one (.P), .one (.I .i64), .one (.I .i64), .one (.I .i64)]) (K : TupV [.one (.I .i64), .one (.I .i64)] → Heap → Prop) (h : Heap) :
    funP ⟨Try.prog, [(31, ⟨[.one (.P), .one (.I .i64), .one (.I .i64), .one (.I .i64)], [.one (.P), .one (.I .i64)], fun t K h => f_stream_Net_at t.1 t.2.1 t.2.2.1 t.2.2.2.1 (fun r0 r1 h => K (r0, r1, ()) h) h⟩), (34, ⟨[.one (.L)], [.one (.L)], fun t K h => f_slices_Clone_byte_byte_ t.1 (fun r0 h => K (r0, ()) h) h⟩)], 62, []⟩ Try.f15 (.seq (.leaf) (.seq (.leaf) (.seq (.leaf) (.seq (.leaf) (.seq (.leaf) (.seq (.order (.take 0 (.take 1 (.take 2 (.take 3 (.take 5 (.take 6 (.take 7 (.take 9 (.take 4 (.take 8 (.take 10 (.take 11 (.take 12 (.take 13 (.take 14 .done)))))))))))))))) (.leaf))))))) (TupV.evs [.one (.P), .one (.I .i64), .one (.I .i64), .one (.I .i64)] t) [.one (.I .i64), .one (.I .i64)] K h = g_stream_Net_Move f_stream_Net_at f_slices_Clone_byte_byte_ t.1 t.2.1 t.2.2.1 t.2.2.2.1 (fun r0 r1 h => K (r0, r1, ()) h) h := by kernel_rfl
theorem ok_stream_Net_Move : CallOK Try.prog 15 s_stream_Net_Move :=
  ok_of (c := c_stream_Net_Move) Try.func15 (by kernel_rfl) (by kernel_rfl) rfl (by decide) (cfg_ok _ (.cons ok_stream_Net_at (.cons ok_slices_Clone_byte_byte_ .nil)) .nil) mixed_ok fun t K h => r_stream_Net_Move m_stream_Net_at m_slices_Clone_byte_byte_ t K h

noncomputable def s_stream_Net_Read : CallSpec := ⟨[.one (.P), .one (.I .i64), .one (.I .i64), .one (.I .i64)], [.one (.L), .one (.B), .one (.I .i64)], fun t K h => m_stream_Net_Read t.1 t.2.1 t.2.2.1 t.2.2.2.1 (fun r0 r1 r2 h => K (r0, r1, r2, ()) h) h⟩
noncomputable def c_stream_Net_Read : Cfg := ⟨Try.prog, [(31, s_stream_Net_at), (34, s_slices_Clone_byte_byte_)], 78, []⟩
theorem r_stream_Net_Read (f_stream_Net_at : (Option Addr) → Int → Int → Int → ((Option Addr) → Int → Heap → Prop) → Heap → Prop) (f_slices_Clone_byte_byte_ : Sl → (Sl → Heap → Prop) → Heap → Prop) (t : TupV [.one (.P), .one (.I .i64), .one (.I .i64), .one (.I .i64)]) (K : TupV [.one (.L), .one (.B), .one (.I .i64)] → Heap → Prop) (h : Heap) :
    funP ⟨Try.prog, [(31, ⟨[.one (.P), .one (.I .i64), .one (.I .i64), .one (.I .i64)], [.one (.P), .one (.I .i64)], fun t K h => f_stream_Net_at t.1 t.2.1 t.2.2.1 t.2.2.2.1 (fun r0 r1 h => K (r0, r1, ()) h) h⟩), (34, ⟨[.one (.L)], [.one (.L)], fun t K h => f_slices_Clone_byte_byte_ t.1 (fun r0 h => K (r0, ()) h) h⟩)], 78, []⟩ Try.f16 (.leaf) (TupV.evs [.one (.P), .one (.I .i64), .one (.I .i64), .one (.I .i64)] t) [.one (.L), .one (.B), .one (.I .i64)] K h = g_stream_Net_Read f_stream_Net_at f_slices_Clone_byte_byte_ t.1 t.2.1 t.2.2.1 t.2.2.2.1 (fun r0 r1 r2 h => K (r0, r1, r2, ()) h) h := by kernel_rfl
theorem ok_stream_Net_Read : CallOK Try.prog 16 s_stream_Net_Read :=
  ok_of (c := c_stream_Net_Read) Try.func16 (by kernel_rfl) (by kernel_rfl) rfl (by decide) (cfg_ok _ (.cons ok_stream_Net_at (.cons ok_slices_Clone_byte_byte_ .nil)) .nil) mixed_ok fun t K h => r_stream_Net_Read m_stream_Net_at m_slices_Clone_byte_byte_ t K h

noncomputable def s_bytes_Clone : CallSpec := ⟨[.one (.L)], [.one (.L)], fun t K h => m_bytes_Clone t.1 (fun r0 h => K (r0, ()) h) h⟩
noncomputable def c_bytes_Clone : Cfg := ⟨Try.prog, [], 8, []⟩
theorem r_bytes_Clone (t : TupV [.one (.L)]) (K : TupV [.one (.L)] → Heap → Prop) (h : Heap) :
    funP ⟨Try.prog, [], 8, []⟩ Try.f49 (.leaf) (TupV.evs [.one (.L)] t) [.one (.L)] K h = g_bytes_Clone t.1 (fun r0 h => K (r0, ()) h) h := by kernel_rfl
theorem ok_bytes_Clone : CallOK Try.prog 49 s_bytes_Clone :=
  ok_of (c := c_bytes_Clone) Try.func49 (by kernel_rfl) (by kernel_rfl) rfl (by decide) (cfg_ok _ .nil .nil) mixed_ok fun t K h => r_bytes_Clone t K h

noncomputable def s_frame_length : CallSpec := ⟨[.one (.L)], [.one (.I .i64), .one (.B)], fun t K h => m_frame_length t.1 (fun r0 r1 h => K (r0, r1, ()) h) h⟩
noncomputable def c_frame_length : Cfg := ⟨Try.prog, [], 44, []⟩
theorem r_frame_length (t : TupV [.one (.L)]) (K : TupV [.one (.I .i64), .one (.B)] → Heap → Prop) (h : Heap) :
    funP ⟨Try.prog, [], 44, []⟩ Try.f50 (.seq (.leaf) (.seq (.leaf) (.seq (.seq (.leaf) (.block (.loop [4, 13] [.one (.I .i64), .one (.I .i64)] [(6, 6), (14, 22)] (.leaf)))) (.cut [] [] [(2, 3), (23, 36)] (.leaf) (.leaf))))) (TupV.evs [.one (.L)] t) [.one (.I .i64), .one (.B)] K h = g_frame_length t.1 (fun r0 r1 h => K (r0, r1, ()) h) h := by kernel_rfl
theorem ok_frame_length : CallOK Try.prog 50 s_frame_length :=
  ok_of (c := c_frame_length) Try.func50 (by kernel_rfl) (by kernel_rfl) rfl (by decide) (cfg_ok _ .nil .nil) mixed_ok fun t K h => r_frame_length t K h

noncomputable def s_frame_Reader_Put : CallSpec := ⟨[.one (.P), .one (.L)], [.one (.L), .one (.I .i64)], fun t K h => m_frame_Reader_Put t.1 t.2.1 (fun r0 r1 h => K (r0, r1, ()) h) h⟩
noncomputable def c_frame_Reader_Put : Cfg := ⟨Try.prog, [(49, s_bytes_Clone), (50, s_frame_length)], 64, []⟩
theorem r_frame_Reader_Put (f_bytes_Clone : Sl → (Sl → Heap → Prop) → Heap → Prop) (f_frame_length : Sl → (Int → Bool → Heap → Prop) → Heap → Prop) (t : TupV [.one (.P), .one (.L)]) (K : TupV [.one (.L), .one (.I .i64)] → Heap → Prop) (h : Heap) :
    funP ⟨Try.prog, [(49, ⟨[.one (.L)], [.one (.L)], fun t K h => f_bytes_Clone t.1 (fun r0 h => K (r0, ()) h) h⟩), (50, ⟨[.one (.L)], [.one (.I .i64), .one (.B)], fun t K h => f_frame_length t.1 (fun r0 r1 h => K (r0, r1, ()) h) h⟩)], 64, []⟩ Try.f36 (.seq (.leaf) (.seq (.leaf) (.seq (.leaf) (.seq (.leaf) (.cut [6, 7] [.one (.L), .one (.L)] [(4, 5), (8, 9), (25, 58)] (.block (.loop [6, 7] [.one (.L), .one (.L)] [(4, 5), (8, 9), (25, 58)] (.leaf))) (.leaf)))))) (TupV.evs [.one (.P), .one (.L)] t) [.one (.L), .one (.I .i64)] K h = g_frame_Reader_Put f_bytes_Clone f_frame_length t.1 t.2.1 (fun r0 r1 h => K (r0, r1, ()) h) h := by kernel_rfl
theorem ok_frame_Reader_Put : CallOK Try.prog 36 s_frame_Reader_Put :=
  ok_of (c := c_frame_Reader_Put) Try.func36 (by kernel_rfl) (by kernel_rfl) rfl (by decide) (cfg_ok _ (.cons ok_bytes_Clone (.cons ok_frame_length .nil)) .nil) mixed_ok fun t K h => r_frame_Reader_Put m_bytes_Clone m_frame_length t K h

noncomputable def s_proto_reader_take : CallSpec := ⟨[.one (.P), .one (.I .i64)], [.one (.L)], fun t K h => m_proto_reader_take t.1 t.2.1 (fun r0 h => K (r0, ()) h) h⟩
noncomputable def c_proto_reader_take : Cfg := ⟨Try.prog, [], 53, []⟩
theorem r_proto_reader_take (t : TupV [.one (.P), .one (.I .i64)]) (K : TupV [.one (.L)] → Heap → Prop) (h : Heap) :
    funP ⟨Try.prog, [], 53, []⟩ Try.f61 (.seq (.leaf) (.cut [] [] [(4, 29)] (.seq (.order (.take 0 (.take 1 (.take 2 (.take 3 (.take 4 (.take 5 (.take 6 (.take 7 (.take 8 (.take 11 (.take 12 (.take 13 (.take 16 (.take 9 (.take 10 (.take 14 (.take 15 (.take 17 (.take 18 (.take 19 (.take 20 (.take 21 .done))))))))))))))))))))))) (.leaf)) (.leaf))) (TupV.evs [.one (.P), .one (.I .i64)] t) [.one (.L)] K h = g_proto_reader_take t.1 t.2.1 (fun r0 h => K (r0, ()) h) h := by kernel_rfl
theorem ok_proto_reader_take : CallOK Try.prog 61 s_proto_reader_take :=
  ok_of (c := c_proto_reader_take) Try.func61 (by kernel_rfl) (by kernel_rfl) rfl (by decide) (cfg_ok _ .nil .nil) mixed_ok fun t K h => r_proto_reader_take t K h

noncomputable def s_proto_reader_number : CallSpec := ⟨[.one (.P), .one (.I .i64)], [.one (.I .i64)], fun t K h => m_proto_reader_number t.1 t.2.1 (fun r0 h => K (r0, ()) h) h⟩
noncomputable def c_proto_reader_number : Cfg := ⟨Try.prog, [(61, s_proto_reader_take)], 24, []⟩
theorem r_proto_reader_number (f_proto_reader_take : (Option Addr) → Int → (Sl → Heap → Prop) → Heap → Prop) (t : TupV [.one (.P), .one (.I .i64)]) (K : TupV [.one (.I .i64)] → Heap → Prop) (h : Heap) :
    funP ⟨Try.prog, [(61, ⟨[.one (.P), .one (.I .i64)], [.one (.L)], fun t K h => f_proto_reader_take t.1 t.2.1 (fun r0 h => K (r0, ()) h) h⟩)], 24, []⟩ Try.f51 (.seq (.leaf) (.seq (.leaf) (.seq (.seq (.leaf) (.block (.loop [5, 12] [.one (.I .u64), .one (.I .i64)] [(7, 7), (13, 21)] (.leaf)))) (.leaf)))) (TupV.evs [.one (.P), .one (.I .i64)] t) [.one (.I .i64)] K h = g_proto_reader_number f_proto_reader_take t.1 t.2.1 (fun r0 h => K (r0, ()) h) h := by kernel_rfl
theorem ok_proto_reader_number : CallOK Try.prog 51 s_proto_reader_number :=
  ok_of (c := c_proto_reader_number) Try.func51 (by kernel_rfl) (by kernel_rfl) rfl (by decide) (cfg_ok _ (.cons ok_proto_reader_take .nil) .nil) mixed_ok fun t K h => r_proto_reader_number m_proto_reader_take t K h

noncomputable def s_proto_reader_ended : CallSpec := ⟨[.one (.P), .one (.B)], [.one (.I .i64), .one (.I .i64)], fun t K h => m_proto_reader_ended t.1 t.2.1 (fun r0 r1 h => K (r0, r1, ()) h) h⟩
noncomputable def c_proto_reader_ended : Cfg := ⟨Try.prog, [], 34, []⟩
theorem r_proto_reader_ended (t : TupV [.one (.P), .one (.B)]) (K : TupV [.one (.I .i64), .one (.I .i64)] → Heap → Prop) (h : Heap) :
    funP ⟨Try.prog, [], 34, []⟩ Try.f52 (.leaf) (TupV.evs [.one (.P), .one (.B)] t) [.one (.I .i64), .one (.I .i64)] K h = g_proto_reader_ended t.1 t.2.1 (fun r0 r1 h => K (r0, r1, ()) h) h := by kernel_rfl
theorem ok_proto_reader_ended : CallOK Try.prog 52 s_proto_reader_ended :=
  ok_of (c := c_proto_reader_ended) Try.func52 (by kernel_rfl) (by kernel_rfl) rfl (by decide) (cfg_ok _ .nil .nil) mixed_ok fun t K h => r_proto_reader_ended t K h

noncomputable def s_proto_ReadAnswer : CallSpec := ⟨[.one (.L)], [.agg [.I .i64, .I .u8, .I .i64, .I .i64, .I .i64], .one (.I .i64), .one (.I .i64)], fun t K h => m_proto_ReadAnswer t.1 (fun r0 r1 r2 h => K (r0, r1, r2, ()) h) h⟩
noncomputable def c_proto_ReadAnswer : Cfg := ⟨Try.prog, [(51, s_proto_reader_number), (29, s_proto_RightAnswer), (52, s_proto_reader_ended)], 37, []⟩
theorem r_proto_ReadAnswer (f_proto_reader_number : (Option Addr) → Int → (Int → Heap → Prop) → Heap → Prop) (f_proto_RightAnswer : (Int × Int × Int × Int × Int × Unit) → (Bool → Heap → Prop) → Heap → Prop) (f_proto_reader_ended : (Option Addr) → Bool → (Int → Int → Heap → Prop) → Heap → Prop) (t : TupV [.one (.L)]) (K : TupV [.agg [.I .i64, .I .u8, .I .i64, .I .i64, .I .i64], .one (.I .i64), .one (.I .i64)] → Heap → Prop) (h : Heap) :
    funP ⟨Try.prog, [(51, ⟨[.one (.P), .one (.I .i64)], [.one (.I .i64)], fun t K h => f_proto_reader_number t.1 t.2.1 (fun r0 h => K (r0, ()) h) h⟩), (29, ⟨[.agg [.I .i64, .I .u8, .I .i64, .I .i64, .I .i64]], [.one (.B)], fun t K h => f_proto_RightAnswer t.1 (fun r0 h => K (r0, ()) h) h⟩), (52, ⟨[.one (.P), .one (.B)], [.one (.I .i64), .one (.I .i64)], fun t K h => f_proto_reader_ended t.1 t.2.1 (fun r0 r1 h => K (r0, r1, ()) h) h⟩)], 37, []⟩ Try.f37 (.leaf) (TupV.evs [.one (.L)] t) [.agg [.I .i64, .I .u8, .I .i64, .I .i64, .I .i64], .one (.I .i64), .one (.I .i64)] K h = g_proto_ReadAnswer f_proto_reader_number f_proto_RightAnswer f_proto_reader_ended t.1 (fun r0 r1 r2 h => K (r0, r1, r2, ()) h) h := by kernel_rfl
theorem ok_proto_ReadAnswer : CallOK Try.prog 37 s_proto_ReadAnswer :=
  ok_of (c := c_proto_ReadAnswer) Try.func37 (by kernel_rfl) (by kernel_rfl) rfl (by decide) (cfg_ok _ (.cons ok_proto_reader_number (.cons ok_proto_RightAnswer (.cons ok_proto_reader_ended .nil))) .nil) mixed_ok fun t K h => r_proto_ReadAnswer m_proto_reader_number m_proto_RightAnswer m_proto_reader_ended t K h

noncomputable def s_client_Client_answered : CallSpec := ⟨[.one (.P), .agg [.I .i64, .I .u8, .I .i64, .I .i64, .I .i64]], [], fun t K h => m_client_Client_answered t.1 t.2.1 (fun h => K (()) h) h⟩
noncomputable def c_client_Client_answered : Cfg := ⟨Try.prog, [], 36, []⟩
theorem r_client_Client_answered (t : TupV [.one (.P), .agg [.I .i64, .I .u8, .I .i64, .I .i64, .I .i64]]) (K : TupV [] → Heap → Prop) (h : Heap) :
    funP ⟨Try.prog, [], 36, []⟩ Try.f38 (.seq (.leaf) (.seq (.order (.take 0 (.take 1 (.take 2 (.take 4 (.take 3 (.take 5 (.take 6 (.take 7 (.take 8 (.take 9 (.take 10 (.take 11 .done))))))))))))) (.seq (.leaf) (.cond (.seq (.order (.take 0 (.take 1 (.take 2 (.take 4 (.take 3 (.take 5 (.take 6 .done)))))))) (.order (.take 0 (.take 1 (.take 2 (.take 3 (.take 5 (.take 4 (.take 6 (.take 7 (.take 8 (.take 9 (.take 10 (.take 11 (.take 12 (.take 13 .done)))))))))))))))) (.leaf))))) (TupV.evs [.one (.P), .agg [.I .i64, .I .u8, .I .i64, .I .i64, .I .i64]] t) [] K h = g_client_Client_answered t.1 t.2.1 (fun h => K (()) h) h := by kernel_rfl
theorem ok_client_Client_answered : CallOK Try.prog 38 s_client_Client_answered :=
  ok_of (c := c_client_Client_answered) Try.func38 (by kernel_rfl) (by kernel_rfl) rfl (by decide) (cfg_ok _ .nil .nil) mixed_ok fun t K h => r_client_Client_answered t K h

noncomputable def s_frame_Reader_Reset : CallSpec := ⟨[.one (.P)], [], fun t K h => m_frame_Reader_Reset t.1 (fun h => K (()) h) h⟩
noncomputable def c_frame_Reader_Reset : Cfg := ⟨Try.prog, [], 10, []⟩
theorem r_frame_Reader_Reset (t : TupV [.one (.P)]) (K : TupV [] → Heap → Prop) (h : Heap) :
    funP ⟨Try.prog, [], 10, []⟩ Try.f53 (.leaf) (TupV.evs [.one (.P)] t) [] K h = g_frame_Reader_Reset t.1 (fun h => K (()) h) h := by kernel_rfl
theorem ok_frame_Reader_Reset : CallOK Try.prog 53 s_frame_Reader_Reset :=
  ok_of (c := c_frame_Reader_Reset) Try.func53 (by kernel_rfl) (by kernel_rfl) rfl (by decide) (cfg_ok _ .nil .nil) mixed_ok fun t K h => r_frame_Reader_Reset t K h

noncomputable def s_client_Client_failed : CallSpec := ⟨[.one (.P)], [], fun t K h => m_client_Client_failed t.1 (fun h => K (()) h) h⟩
noncomputable def c_client_Client_failed : Cfg := ⟨Try.prog, [], 28, []⟩
theorem r_client_Client_failed (t : TupV [.one (.P)]) (K : TupV [] → Heap → Prop) (h : Heap) :
    funP ⟨Try.prog, [], 28, []⟩ Try.f54 (.seq (.order (.take 0 (.take 1 (.take 2 (.take 3 (.take 5 (.take 6 (.take 7 (.take 4 (.take 8 (.take 9 (.take 10 (.take 11 (.take 12 .done)))))))))))))) (.order (.take 0 (.take 1 (.take 2 (.take 3 (.take 6 (.take 7 (.take 8 (.take 9 (.take 4 (.take 5 (.take 10 (.take 11 (.take 12 (.take 13 (.take 14 .done))))))))))))))))) (TupV.evs [.one (.P)] t) [] K h = g_client_Client_failed t.1 (fun h => K (()) h) h := by kernel_rfl
theorem ok_client_Client_failed : CallOK Try.prog 54 s_client_Client_failed :=
  ok_of (c := c_client_Client_failed) Try.func54 (by kernel_rfl) (by kernel_rfl) rfl (by decide) (cfg_ok _ .nil .nil) mixed_ok fun t K h => r_client_Client_failed t K h

noncomputable def s_client_Client_down : CallSpec := ⟨[.one (.P)], [], fun t K h => m_client_Client_down t.1 (fun h => K (()) h) h⟩
noncomputable def c_client_Client_down : Cfg := ⟨Try.prog, [(13, s_client_Client_Waiting), (44, s_client_Client_fall), (53, s_frame_Reader_Reset), (54, s_client_Client_failed)], 28, []⟩
theorem r_client_Client_down (f_client_Client_Waiting : (Option Addr) → (Sl → Heap → Prop) → Heap → Prop) (f_client_Client_fall : (Option Addr) → Int → (Heap → Prop) → Heap → Prop) (f_frame_Reader_Reset : (Option Addr) → (Heap → Prop) → Heap → Prop) (f_client_Client_failed : (Option Addr) → (Heap → Prop) → Heap → Prop) (t : TupV [.one (.P)]) (K : TupV [] → Heap → Prop) (h : Heap) :
    funP ⟨Try.prog, [(13, ⟨[.one (.P)], [.one (.L)], fun t K h => f_client_Client_Waiting t.1 (fun r0 h => K (r0, ()) h) h⟩), (44, ⟨[.one (.P), .one (.I .i64)], [], fun t K h => f_client_Client_fall t.1 t.2.1 (fun h => K (()) h) h⟩), (53, ⟨[.one (.P)], [], fun t K h => f_frame_Reader_Reset t.1 (fun h => K (()) h) h⟩), (54, ⟨[.one (.P)], [], fun t K h => f_client_Client_failed t.1 (fun h => K (()) h) h⟩)], 28, []⟩ Try.f39 (.seq (.leaf) (.seq (.seq (.leaf) (.block (.loop [10] [.one (.I .i64)] [(3, 3), (11, 17)] (.leaf)))) (.leaf))) (TupV.evs [.one (.P)] t) [] K h = g_client_Client_down f_client_Client_Waiting f_client_Client_fall f_frame_Reader_Reset f_client_Client_failed t.1 (fun h => K (()) h) h := by kernel_rfl
theorem ok_client_Client_down : CallOK Try.prog 39 s_client_Client_down :=
  ok_of (c := c_client_Client_down) Try.func39 (by kernel_rfl) (by kernel_rfl) rfl (by decide) (cfg_ok _ (.cons ok_client_Client_Waiting (.cons ok_client_Client_fall (.cons ok_frame_Reader_Reset (.cons ok_client_Client_failed .nil)))) .nil) mixed_ok fun t K h => r_client_Client_down m_client_Client_Waiting m_client_Client_fall m_frame_Reader_Reset m_client_Client_failed t K h

noncomputable def s_client_Client_Bytes_1 : CallSpec := ⟨[.one (.P), .one (.P)], [.one (.I .i64)], fun t K h => m_client_Client_Bytes_1 t.1 t.2.1 (fun r0 h => K (r0, ()) h) h⟩
noncomputable def c_client_Client_Bytes_1 : Cfg := ⟨Try.prog, [(36, s_frame_Reader_Put), (37, s_proto_ReadAnswer), (38, s_client_Client_answered), (39, s_client_Client_down)], 47, []⟩
theorem r_client_Client_Bytes_1 (f_frame_Reader_Put : (Option Addr) → Sl → (Sl → Int → Heap → Prop) → Heap → Prop) (f_proto_ReadAnswer : Sl → ((Int × Int × Int × Int × Int × Unit) → Int → Int → Heap → Prop) → Heap → Prop) (f_client_Client_answered : (Option Addr) → (Int × Int × Int × Int × Int × Unit) → (Heap → Prop) → Heap → Prop) (f_client_Client_down : (Option Addr) → (Heap → Prop) → Heap → Prop) (t : TupV [.one (.P), .one (.P)]) (K : TupV [.one (.I .i64)] → Heap → Prop) (h : Heap) :
    funP ⟨Try.prog, [(36, ⟨[.one (.P), .one (.L)], [.one (.L), .one (.I .i64)], fun t K h => f_frame_Reader_Put t.1 t.2.1 (fun r0 r1 h => K (r0, r1, ()) h) h⟩), (37, ⟨[.one (.L)], [.agg [.I .i64, .I .u8, .I .i64, .I .i64, .I .i64], .one (.I .i64), .one (.I .i64)], fun t K h => f_proto_ReadAnswer t.1 (fun r0 r1 r2 h => K (r0, r1, r2, ()) h) h⟩), (38, ⟨[.one (.P), .agg [.I .i64, .I .u8, .I .i64, .I .i64, .I .i64]], [], fun t K h => f_client_Client_answered t.1 t.2.1 (fun h => K (()) h) h⟩), (39, ⟨[.one (.P)], [], fun t K h => f_client_Client_down t.1 (fun h => K (()) h) h⟩)], 47, []⟩ Try.f35 (.seq (.leaf) (.seq (.leaf) (.seq (.order (.take 0 (.take 1 (.take 2 (.take 3 (.take 4 (.take 5 (.take 6 (.take 7 (.take 8 (.take 9 (.take 10 .done)))))))))))) (.cut [4] [.one (.I .i64)] [(6, 9), (24, 41)] (.seq (.leaf) (.block (.loop [4, 26] [.one (.I .i64), .one (.I .i64)] [(6, 9), (27, 41)] (.leaf)))) (.leaf))))) (TupV.evs [.one (.P), .one (.P)] t) [.one (.I .i64)] K h = g_client_Client_Bytes_1 f_frame_Reader_Put f_proto_ReadAnswer f_client_Client_answered f_client_Client_down t.1 t.2.1 (fun r0 h => K (r0, ()) h) h := by kernel_rfl
theorem ok_client_Client_Bytes_1 : CallOK Try.prog 35 s_client_Client_Bytes_1 :=
  ok_of (c := c_client_Client_Bytes_1) Try.func35 (by kernel_rfl) (by kernel_rfl) rfl (by decide) (cfg_ok _ (.cons ok_frame_Reader_Put (.cons ok_proto_ReadAnswer (.cons ok_client_Client_answered (.cons ok_client_Client_down .nil)))) .nil) mixed_ok fun t K h => r_client_Client_Bytes_1 m_frame_Reader_Put m_proto_ReadAnswer m_client_Client_answered m_client_Client_down t K h

noncomputable def s_client_Client_at__client_Client_Bytes_1 : CallSpec := ⟨[.one (.P), .one (.I .i64), .clo 35 [.P, .P]], [.one (.I .i64)], fun t K h => m_client_Client_at__client_Client_Bytes_1 t.1 t.2.1 t.2.2.1 (fun r0 h => K (r0, ()) h) h⟩
noncomputable def c_client_Client_at__client_Client_Bytes_1 : Cfg := ⟨Try.prog, [(13, s_client_Client_Waiting), (44, s_client_Client_fall), (35, s_client_Client_Bytes_1)], 57, []⟩
theorem r_client_Client_at__client_Client_Bytes_1 (f_client_Client_Waiting : (Option Addr) → (Sl → Heap → Prop) → Heap → Prop) (f_client_Client_fall : (Option Addr) → Int → (Heap → Prop) → Heap → Prop) (f_client_Client_Bytes_1 : (Option Addr) → (Option Addr) → (Int → Heap → Prop) → Heap → Prop) (t : TupV [.one (.P), .one (.I .i64), .clo 35 [.P, .P]]) (K : TupV [.one (.I .i64)] → Heap → Prop) (h : Heap) :
    funP ⟨Try.prog, [(13, ⟨[.one (.P)], [.one (.L)], fun t K h => f_client_Client_Waiting t.1 (fun r0 h => K (r0, ()) h) h⟩), (44, ⟨[.one (.P), .one (.I .i64)], [], fun t K h => f_client_Client_fall t.1 t.2.1 (fun h => K (()) h) h⟩), (35, ⟨[.one (.P), .one (.P)], [.one (.I .i64)], fun t K h => f_client_Client_Bytes_1 t.1 t.2.1 (fun r0 h => K (r0, ()) h) h⟩)], 57, []⟩ Try.f25 (.seq (.leaf) (.seq (.leaf) (.seq (.leaf) (.seq (.seq (.leaf) (.block (.loop [33] [.one (.I .i64)] [(8, 8), (34, 54)] (.seq (.leaf) (.seq (.leaf) (.seq (.block (.seq (.leaf) (.seq (.order (.take 0 (.take 1 (.take 2 (.take 3 (.take 5 (.take 8 (.take 9 (.take 10 (.take 11 (.take 4 (.take 12 (.take 6 (.take 7 (.take 13 .done))))))))))))))) (.leaf)))) (.leaf))))))) (.leaf))))) (TupV.evs [.one (.P), .one (.I .i64), .clo 35 [.P, .P]] t) [.one (.I .i64)] K h = g_client_Client_at__client_Client_Bytes_1 f_client_Client_Waiting f_client_Client_fall f_client_Client_Bytes_1 t.1 t.2.1 t.2.2.1 (fun r0 h => K (r0, ()) h) h := by kernel_rfl
theorem ok_client_Client_at__client_Client_Bytes_1 : CallOK Try.prog 25 s_client_Client_at__client_Client_Bytes_1 :=
  ok_of (c := c_client_Client_at__client_Client_Bytes_1) Try.func25 (by kernel_rfl) (by kernel_rfl) rfl (by decide) (cfg_ok _ (.cons ok_client_Client_Waiting (.cons ok_client_Client_fall (.cons ok_client_Client_Bytes_1 .nil))) .nil) mixed_ok fun t K h => r_client_Client_at__client_Client_Bytes_1 m_client_Client_Waiting m_client_Client_fall m_client_Client_Bytes_1 t K h

noncomputable def s_client_Client_Bytes : CallSpec := ⟨[.one (.P), .one (.I .i64), .one (.L)], [.one (.I .i64)], fun t K h => m_client_Client_Bytes t.1 t.2.1 t.2.2.1 (fun r0 h => K (r0, ()) h) h⟩
noncomputable def c_client_Client_Bytes : Cfg := ⟨Try.prog, [(25, s_client_Client_at__client_Client_Bytes_1)], 11, []⟩
theorem r_client_Client_Bytes (f_client_Client_at__client_Client_Bytes_1 : (Option Addr) → Int → (Option Addr × Option Addr × Unit) → (Int → Heap → Prop) → Heap → Prop) (t : TupV [.one (.P), .one (.I .i64), .one (.L)]) (K : TupV [.one (.I .i64)] → Heap → Prop) (h : Heap) :
    funP ⟨Try.prog, [(25, ⟨[.one (.P), .one (.I .i64), .clo 35 [.P, .P]], [.one (.I .i64)], fun t K h => f_client_Client_at__client_Client_Bytes_1 t.1 t.2.1 t.2.2.1 (fun r0 h => K (r0, ()) h) h⟩)], 11, []⟩ Try.f17 (.leaf) (TupV.evs [.one (.P), .one (.I .i64), .one (.L)] t) [.one (.I .i64)] K h = g_client_Client_Bytes f_client_Client_at__client_Client_Bytes_1 t.1 t.2.1 t.2.2.1 (fun r0 h => K (r0, ()) h) h := by kernel_rfl
theorem ok_client_Client_Bytes : CallOK Try.prog 17 s_client_Client_Bytes :=
  ok_of (c := c_client_Client_Bytes) Try.func17 (by kernel_rfl) (by kernel_rfl) rfl (by decide) (cfg_ok _ (.cons ok_client_Client_at__client_Client_Bytes_1 .nil) .nil) mixed_ok fun t K h => r_client_Client_Bytes m_client_Client_at__client_Client_Bytes_1 t K h

noncomputable def s_client_Client_Told : CallSpec := ⟨[.one (.P)], [.one (.L)], fun t K h => m_client_Client_Told t.1 (fun r0 h => K (r0, ()) h) h⟩
noncomputable def c_client_Client_Told : Cfg := ⟨Try.prog, [], 14, []⟩
theorem r_client_Client_Told (t : TupV [.one (.P)]) (K : TupV [.one (.L)] → Heap → Prop) (h : Heap) :
    funP ⟨Try.prog, [], 14, []⟩ Try.f18 (.leaf) (TupV.evs [.one (.P)] t) [.one (.L)] K h = g_client_Client_Told t.1 (fun r0 h => K (r0, ()) h) h := by kernel_rfl
theorem ok_client_Client_Told : CallOK Try.prog 18 s_client_Client_Told :=
  ok_of (c := c_client_Client_Told) Try.func18 (by kernel_rfl) (by kernel_rfl) rfl (by decide) (cfg_ok _ .nil .nil) mixed_ok fun t K h => r_client_Client_Told t K h

noncomputable def s_stream_Net_Look : CallSpec := ⟨[.one (.P), .one (.I .i64), .one (.I .i64)], [.one (.I .i64), .one (.I .i64), .one (.I .i64)], fun t K h => m_stream_Net_Look t.1 t.2.1 t.2.2.1 (fun r0 r1 r2 h => K (r0, r1, r2, ()) h) h⟩
noncomputable def c_stream_Net_Look : Cfg := ⟨Try.prog, [(31, s_stream_Net_at)], 37, []⟩
theorem r_stream_Net_Look (f_stream_Net_at : (Option Addr) → Int → Int → Int → ((Option Addr) → Int → Heap → Prop) → Heap → Prop) (t : TupV [.one (.P), .one (.I .i64), .one (.I .i64)]) (K : TupV [.one (.I .i64), .one (.I .i64), .one (.I .i64)] → Heap → Prop) (h : Heap) :
    funP ⟨Try.prog, [(31, ⟨[.one (.P), .one (.I .i64), .one (.I .i64), .one (.I .i64)], [.one (.P), .one (.I .i64)], fun t K h => f_stream_Net_at t.1 t.2.1 t.2.2.1 t.2.2.2.1 (fun r0 r1 h => K (r0, r1, ()) h) h⟩)], 37, []⟩ Try.f19 (.leaf) (TupV.evs [.one (.P), .one (.I .i64), .one (.I .i64)] t) [.one (.I .i64), .one (.I .i64), .one (.I .i64)] K h = g_stream_Net_Look f_stream_Net_at t.1 t.2.1 t.2.2.1 (fun r0 r1 r2 h => K (r0, r1, r2, ()) h) h := by kernel_rfl
theorem ok_stream_Net_Look : CallOK Try.prog 19 s_stream_Net_Look :=
  ok_of (c := c_stream_Net_Look) Try.func19 (by kernel_rfl) (by kernel_rfl) rfl (by decide) (cfg_ok _ (.cons ok_stream_Net_at .nil) .nil) mixed_ok fun t K h => r_stream_Net_Look m_stream_Net_at t K h

noncomputable def s_client_Client_Connected : CallSpec := ⟨[.one (.P)], [.one (.B)], fun t K h => m_client_Client_Connected t.1 (fun r0 h => K (r0, ()) h) h⟩
noncomputable def c_client_Client_Connected : Cfg := ⟨Try.prog, [], 11, []⟩
theorem r_client_Client_Connected (t : TupV [.one (.P)]) (K : TupV [.one (.B)] → Heap → Prop) (h : Heap) :
    funP ⟨Try.prog, [], 11, []⟩ Try.f20 (.leaf) (TupV.evs [.one (.P)] t) [.one (.B)] K h = g_client_Client_Connected t.1 (fun r0 h => K (r0, ()) h) h := by kernel_rfl
theorem ok_client_Client_Connected : CallOK Try.prog 20 s_client_Client_Connected :=
  ok_of (c := c_client_Client_Connected) Try.func20 (by kernel_rfl) (by kernel_rfl) rfl (by decide) (cfg_ok _ .nil .nil) mixed_ok fun t K h => r_client_Client_Connected t K h

noncomputable def s_spillwaytop_TopAnswered : CallSpec := ⟨[.one (.L), .one (.L)], [.one (.B)], fun t K h => m_spillwaytop_TopAnswered t.1 t.2.1 (fun r0 h => K (r0, ()) h) h⟩
noncomputable def c_spillwaytop_TopAnswered : Cfg := ⟨Try.prog, [(4, s_stream_New), (5, s_stream_Net_Listen), (6, s_stream_Net_Dial), (7, s_client_New), (8, s_client_Client_Up), (9, s_client_Client_Ask), (10, s_proto_Answer), (11, s_frame_Frame), (12, s_stream_Net_Write), (13, s_client_Client_Waiting), (14, s_spillwaytop_which), (15, s_stream_Net_Move), (16, s_stream_Net_Read), (17, s_client_Client_Bytes), (18, s_client_Client_Told), (19, s_stream_Net_Look), (20, s_client_Client_Connected)], 212, []⟩
theorem r_spillwaytop_TopAnswered (f_stream_New : ((Option Addr) → Heap → Prop) → Heap → Prop) (f_stream_Net_Listen : (Option Addr) → Sl → (Int → Heap → Prop) → Heap → Prop) (f_stream_Net_Dial : (Option Addr) → Int → (Int → Int → Heap → Prop) → Heap → Prop) (f_client_New : (Int × Int × Int × Unit) → ByteArray → ((Option Addr) → Int → Heap → Prop) → Heap → Prop) (f_client_Client_Up : (Option Addr) → Int → (Int → Heap → Prop) → Heap → Prop) (f_client_Client_Ask : (Option Addr) → Int → (Int × Int × Int × Int × ByteArray × Int × Unit) → (Int → Bool → Int → Heap → Prop) → Heap → Prop) (f_proto_Answer : (Int × Int × Int × Int × Int × Unit) → (Sl → Int → Heap → Prop) → Heap → Prop) (f_frame_Frame : Sl → (Sl → Int → Heap → Prop) → Heap → Prop) (f_stream_Net_Write : (Option Addr) → Int → Int → Sl → (Int → Heap → Prop) → Heap → Prop) (f_client_Client_Waiting : (Option Addr) → (Sl → Heap → Prop) → Heap → Prop) (f_spillwaytop_which : Int → Int → (Int → Heap → Prop) → Heap → Prop) (f_stream_Net_Move : (Option Addr) → Int → Int → Int → (Int → Int → Heap → Prop) → Heap → Prop) (f_stream_Net_Read : (Option Addr) → Int → Int → Int → (Sl → Bool → Int → Heap → Prop) → Heap → Prop) (f_client_Client_Bytes : (Option Addr) → Int → Sl → (Int → Heap → Prop) → Heap → Prop) (f_client_Client_Told : (Option Addr) → (Sl → Heap → Prop) → Heap → Prop) (f_stream_Net_Look : (Option Addr) → Int → Int → (Int → Int → Int → Heap → Prop) → Heap → Prop) (f_client_Client_Connected : (Option Addr) → (Bool → Heap → Prop) → Heap → Prop) (t : TupV [.one (.L), .one (.L)]) (K : TupV [.one (.B)] → Heap → Prop) (h : Heap) :
    funP ⟨Try.prog, [(4, ⟨[], [.one (.P)], fun _ K h => f_stream_New (fun r0 h => K (r0, ()) h) h⟩), (5, ⟨[.one (.P), .one (.L)], [.one (.I .i64)], fun t K h => f_stream_Net_Listen t.1 t.2.1 (fun r0 h => K (r0, ()) h) h⟩), (6, ⟨[.one (.P), .one (.I .i64)], [.one (.I .i64), .one (.I .i64)], fun t K h => f_stream_Net_Dial t.1 t.2.1 (fun r0 r1 h => K (r0, r1, ()) h) h⟩), (7, ⟨[.agg [.I .i64, .I .i64, .I .i64], .one (.S)], [.one (.P), .one (.I .i64)], fun t K h => f_client_New t.1 t.2.1 (fun r0 r1 h => K (r0, r1, ()) h) h⟩), (8, ⟨[.one (.P), .one (.I .i64)], [.one (.I .i64)], fun t K h => f_client_Client_Up t.1 t.2.1 (fun r0 h => K (r0, ()) h) h⟩), (9, ⟨[.one (.P), .one (.I .i64), .agg [.I .i64, .I .u8, .I .i64, .I .i64, .S, .I .i64]], [.one (.I .i64), .one (.B), .one (.I .i64)], fun t K h => f_client_Client_Ask t.1 t.2.1 t.2.2.1 (fun r0 r1 r2 h => K (r0, r1, r2, ()) h) h⟩), (10, ⟨[.agg [.I .i64, .I .u8, .I .i64, .I .i64, .I .i64]], [.one (.L), .one (.I .i64)], fun t K h => f_proto_Answer t.1 (fun r0 r1 h => K (r0, r1, ()) h) h⟩), (11, ⟨[.one (.L)], [.one (.L), .one (.I .i64)], fun t K h => f_frame_Frame t.1 (fun r0 r1 h => K (r0, r1, ()) h) h⟩), (12, ⟨[.one (.P), .one (.I .i64), .one (.I .i64), .one (.L)], [.one (.I .i64)], fun t K h => f_stream_Net_Write t.1 t.2.1 t.2.2.1 t.2.2.2.1 (fun r0 h => K (r0, ()) h) h⟩), (13, ⟨[.one (.P)], [.one (.L)], fun t K h => f_client_Client_Waiting t.1 (fun r0 h => K (r0, ()) h) h⟩), (14, ⟨[.one (.I .i64), .one (.I .i64)], [.one (.I .i64)], fun t K h => f_spillwaytop_which t.1 t.2.1 (fun r0 h => K (r0, ()) h) h⟩), (15, ⟨[.one (.P), .one (.I .i64), .one (.I .i64), .one (.I .i64)], [.one (.I .i64), .one (.I .i64)], fun t K h => f_stream_Net_Move t.1 t.2.1 t.2.2.1 t.2.2.2.1 (fun r0 r1 h => K (r0, r1, ()) h) h⟩), (16, ⟨[.one (.P), .one (.I .i64), .one (.I .i64), .one (.I .i64)], [.one (.L), .one (.B), .one (.I .i64)], fun t K h => f_stream_Net_Read t.1 t.2.1 t.2.2.1 t.2.2.2.1 (fun r0 r1 r2 h => K (r0, r1, r2, ()) h) h⟩), (17, ⟨[.one (.P), .one (.I .i64), .one (.L)], [.one (.I .i64)], fun t K h => f_client_Client_Bytes t.1 t.2.1 t.2.2.1 (fun r0 h => K (r0, ()) h) h⟩), (18, ⟨[.one (.P)], [.one (.L)], fun t K h => f_client_Client_Told t.1 (fun r0 h => K (r0, ()) h) h⟩), (19, ⟨[.one (.P), .one (.I .i64), .one (.I .i64)], [.one (.I .i64), .one (.I .i64), .one (.I .i64)], fun t K h => f_stream_Net_Look t.1 t.2.1 t.2.2.1 (fun r0 r1 r2 h => K (r0, r1, r2, ()) h) h⟩), (20, ⟨[.one (.P)], [.one (.B)], fun t K h => f_client_Client_Connected t.1 (fun r0 h => K (r0, ()) h) h⟩)], 212, []⟩ Try.f3 (.seq (.leaf) (.seq (.leaf) (.seq (.leaf) (.seq (.leaf) (.seq (.leaf) (.seq (.leaf) (.seq (.leaf) (.cut [10] [.one (.I .i64)] [(4, 4), (11, 17), (60, 103)] (.seq (.leaf) (.block (.loop [10, 11] [.one (.I .i64), .one (.I .i64)] [(4, 4), (12, 17), (60, 103)] (.leaf)))) (.seq (.leaf) (.seq (.leaf) (.cut [19] [.one (.L)] [(4, 4), (20, 27), (107, 155)] (.seq (.leaf) (.block (.loop [19, 20] [.one (.L), .one (.I .i64)] [(4, 4), (21, 27), (107, 155)] (.seq (.leaf) (.seq (.block (.seq (.leaf) (.cut [21] [.one (.I .i64)] [(111, 120)] (.leaf) (.seq (.leaf) (.seq (.leaf) (.seq (.leaf) (.cut [] [] [(4, 4), (134, 142)] (.leaf) (.leaf)))))))) (.leaf)))))) (.seq (.leaf) (.seq (.seq (.leaf) (.block (.loop [28, 29] [.one (.I .i64), .one (.I .i64)] [(4, 4), (156, 194)] (.leaf)))) (.leaf)))))))))))))) (TupV.evs [.one (.L), .one (.L)] t) [.one (.B)] K h = g_spillwaytop_TopAnswered f_stream_New f_stream_Net_Listen f_stream_Net_Dial f_client_New f_client_Client_Up f_client_Client_Ask f_proto_Answer f_frame_Frame f_stream_Net_Write f_client_Client_Waiting f_spillwaytop_which f_stream_Net_Move f_stream_Net_Read f_client_Client_Bytes f_client_Client_Told f_stream_Net_Look f_client_Client_Connected t.1 t.2.1 (fun r0 h => K (r0, ()) h) h := by kernel_rfl
theorem ok_spillwaytop_TopAnswered : CallOK Try.prog 3 s_spillwaytop_TopAnswered :=
  ok_of (c := c_spillwaytop_TopAnswered) Try.func3 (by kernel_rfl) (by kernel_rfl) rfl (by decide) (cfg_ok _ (.cons ok_stream_New (.cons ok_stream_Net_Listen (.cons ok_stream_Net_Dial (.cons ok_client_New (.cons ok_client_Client_Up (.cons ok_client_Client_Ask (.cons ok_proto_Answer (.cons ok_frame_Frame (.cons ok_stream_Net_Write (.cons ok_client_Client_Waiting (.cons ok_spillwaytop_which (.cons ok_stream_Net_Move (.cons ok_stream_Net_Read (.cons ok_client_Client_Bytes (.cons ok_client_Client_Told (.cons ok_stream_Net_Look (.cons ok_client_Client_Connected .nil))))))))))))))))) .nil) mixed_ok fun t K h => r_spillwaytop_TopAnswered m_stream_New m_stream_Net_Listen m_stream_Net_Dial m_client_New m_client_Client_Up m_client_Client_Ask m_proto_Answer m_frame_Frame m_stream_Net_Write m_client_Client_Waiting m_spillwaytop_which m_stream_Net_Move m_stream_Net_Read m_client_Client_Bytes m_client_Client_Told m_stream_Net_Look m_client_Client_Connected t K h

end Go.Proofs.Ytbofhmcjcllcaaa
