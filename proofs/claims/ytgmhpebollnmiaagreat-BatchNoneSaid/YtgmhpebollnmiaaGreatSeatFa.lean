import Derived.Test.YtgmhpebollnmiaaGreatSeatPg
set_option autoImplicit true
set_option relaxedAutoImplicit true
set_option linter.all false
set_option linter.unusedVariables false
set_option linter.unusedSimpArgs false
set_option linter.unusedVariables false
namespace Go.L1
open Go Go.Proofs
noncomputable abbrev bI (op : BinOp) (x y : Value) : Option Value := binV pg.ty (tyD (.int .i64)) op x y
abbrev jn3 {ρ : Type} (K : List Value → H → List Nat → Option ρ) (F : (List Value → H → List Nat → Option ρ) → Option ρ) : Option ρ := jn K F
-- 8 asterism/asterismlaw13.BatchNone
noncomputable def F_asterismlaw13_BatchNone (call : CallF) (lp : LoopF) (h : H) : Option (Value × H × List Nat) :=
 hv (call (.fn N_data_New) [] h) fun v0 h1 l2 =>
 hv (call (.fn N_asterismlaw13_num) [(.int .i64 1)] h1) fun v3 h4 l5 =>
 al (aBuildS pg h4.n T_Lapi_Value 1 [(0, v3)]) h4 fun v6 h7 =>
 ob (oBuild pg T_api_Op [(0, (.int .i64 1)), (1, (.string ⟨#[120]⟩)), (4, v6)]) fun v8 =>
 al (aBuildS pg h7.n T_Lapi_Op 1 [(0, v8)]) h7 fun v9 h10 =>
 hv (call (.fn N_batch_Apply) [v0, v9] h10) fun v11 h12 l13 =>
 ob (rExtract 0 v11) fun v14 =>
 ob (rExtract 1 v11) fun v15 =>
 al (aNew h12.n T_api_Fault [(.int .i64 0), (.int .i64 0), (.string ⟨#[]⟩), (.int .i64 0), (.string ⟨#[]⟩)]) h12 fun v16 h17 =>
 hv (rStore h17 5 v16 v15) fun v18 h19 l20 =>
 hv (call (.fn N_data_New) [] h19) fun v21 h22 l23 =>
 ob (oBuild pg T_api_Op [(0, (.int .i64 9)), (1, (.string ⟨#[120]⟩))]) fun v24 =>
 al (aBuildS pg h22.n T_Lapi_Op 1 [(0, v24)]) h22 fun v25 h26 =>
 hv (call (.fn N_batch_Apply) [v21, v25] h26) fun v27 h28 l29 =>
 ob (rExtract 0 v27) fun v30 =>
 ob (rExtract 1 v27) fun v31 =>
 al (aNew h28.n T_api_Fault [(.int .i64 0), (.int .i64 0), (.string ⟨#[]⟩), (.int .i64 0), (.string ⟨#[]⟩)]) h28 fun v32 h33 =>
 hv (rStore h33 5 v32 v31) fun v34 h35 l36 =>
 ob (oBuild pg T_asterismref12_DB []) fun v37 =>
 al (aBx h35.n T_asterismref12_DB 3 v37) h35 fun v38 h39 =>
 ob (oBuild pg T_api_Op [(0, (.int .i64 9)), (1, (.string ⟨#[120]⟩))]) fun v40 =>
 al (aBuildS pg h39.n T_Lapi_Op 1 [(0, v40)]) h39 fun v41 h42 =>
 hv (call (.fn N_asterismref12_DB_Apply) [v38, v41] h42) fun v43 h44 l45 =>
 ob (rExtract 0 v43) fun v46 =>
 ob (rExtract 1 v43) fun v47 =>
 al (aNew h44.n T_api_Fault [(.int .i64 0), (.int .i64 0), (.string ⟨#[]⟩), (.int .i64 0), (.string ⟨#[]⟩)]) h44 fun v48 h49 =>
 hv (rStore h49 5 v48 v47) fun v50 h51 l52 =>
 hv (call (.fn N_asterismlaw13_begun) [] h51) fun v53 h54 l55 =>
 gP (gd v53 true) (rFld 0 v16) fun v56 =>
 gP (gd v53 true) (rLd1 h54.get v56) fun v57 =>
 gP (gd v53 true) (bI .eql v57 (.int .i64 3)) fun v58 =>
 ob (rPick v53 v58 (.bool false)) fun v59 =>
 gP (gd v59 true) (rFld 2 v16) fun v60 =>
 gP (gd v59 true) (rLd1 h54.get v60) fun v61 =>
 gP (gd v59 true) (binV pg.ty (tyD .string) .eql v61 (.string ⟨#[120]⟩)) fun v62 =>
 ob (rPick v59 v62 (.bool false)) fun v63 =>
 gP (gd v63 true) (rLdA h54.get 5 v32) fun v64 =>
 gP (gd v63 true) (rLdA h54.get 5 v48) fun v65 =>
 hv (gV (gd v63 true) (call (.fn N_asterismlaw13_EqFault) [v64, v65] h54) h54) fun v66 h67 l68 =>
 ob (rPick v63 v66 (.bool false)) fun v69 =>
 fin h (rsT v69 (some [])) h67 (l68 ++ (l55 ++ (l52 ++ (l45 ++ (l36 ++ (l29 ++ (l23 ++ (l20 ++ (l13 ++ (l5 ++ (l2 ++ [])))))))))))

-- 9 asterism/asterismlaw12.begun
noncomputable def F_asterismlaw12_begun (call : CallF) (lp : LoopF) (h : H) : Option (Value × H × List Nat) :=
 hv (call (.fn N_asterismlaw12_Star) [] h) fun v0 h1 l2 =>
 ob (rExtract 0 v0) fun v3 =>
 ob (rExtract 1 v0) fun v4 =>
 ob (binV pg.ty (tyD (.pointer 0)) .eql v3 (.pointer none)) fun v5 =>
 gP (gd v5 false) (some v3) fun v6 =>
 hv (gV (gd v5 false) (call (.fn N_data_DB_Table) [v6, (.string ⟨#[108, 97, 110, 100]⟩)] h1) h1) fun v7 h8 l9 =>
 gP (gd v5 false) (binV pg.ty (tyD (.pointer 0)) .eql v7 (.pointer none)) fun v10 =>
 ob (rPick v5 (.bool true) v10) fun v11 =>
 gP (gd v11 false) (some v3) fun v12 =>
 hv (gV (gd v11 false) (call (.fn N_data_DB_Table) [v12, (.string ⟨#[115, 104, 111, 112]⟩)] h8) h8) fun v13 h14 l15 =>
 gP (gd v11 false) (binV pg.ty (tyD (.pointer 0)) .eql v13 (.pointer none)) fun v16 =>
 ob (rPick v11 (.bool true) v16) fun v17 =>
 gP (gd v17 false) (some v3) fun v18 =>
 hv (gV (gd v17 false) (call (.fn N_data_DB_Table) [v18, (.string ⟨#[120]⟩)] h14) h14) fun v19 h20 l21 =>
 gP (gd v17 false) (binV pg.ty (tyD (.pointer 0)) .neq v19 (.pointer none)) fun v22 =>
 ob (rPick v17 (.bool true) v22) fun v23 =>
 gP (gd v23 false) (some v3) fun v24 =>
 hv (gV (gd v23 false) (call (.fn N_data_DB_Schema) [v24] h20) h20) fun v25 h26 l27 =>
 gP (gd v23 false) (binV pg.ty (tyD (.pointer 0)) .eql v25 (.pointer none)) fun v28 =>
 ob (rPick v23 (.bool true) v28) fun v29 =>
 jn3 (fun vs31 h32 l33 =>
 ob (oBuild pg T_api_Value [(0, (.int .i64 1)), (1, (.int .i64 1))]) fun v34 =>
 al (aNew h32.n T_api_Value [(.int .i64 0), (.int .i64 0), (.string ⟨#[]⟩)]) h32 fun v35 h36 =>
 hv (rStore h36 3 v35 v34) fun v37 h38 l39 =>
 hv (call (.fn N_data_DB_Table) [(nt vs31 0), (.string ⟨#[108, 97, 110, 100]⟩)] h38) fun v40 h41 l42 =>
 ob (rLdA h41.get 3 v35) fun v43 =>
 ob (oBuild pg T_api_Value [(0, (.int .i64 2)), (2, (.string ⟨#[104, 101, 114, 101]⟩))]) fun v44 =>
 al (aBuildS pg h41.n T_Lapi_Value 2 [(0, v43), (1, v44)]) h41 fun v45 h46 =>
 hv (call (.fn N_table_Table_Insert) [v40, v45] h46) fun v47 h48 l49 =>
 dr [0, 1, 0, 0, 12, 31] [mP h38, mH h38 (rdL [(nt vs31 0), (.string ⟨#[108, 97, 110, 100]⟩)]) l42 h41, mR h41 (rdP v35), mP h41, mA h41 [], mH h46 (rdL [v40, v45]) l49 h48] fun l50 =>
 hv (call (.fn N_data_DB_Table) [(nt vs31 0), (.string ⟨#[115, 104, 111, 112]⟩)] h48) fun v51 h52 l53 =>
 ob (rLdA h52.get 3 v35) fun v54 =>
 ob (oBuild pg T_api_Value [(0, (.int .i64 2)), (2, (.string ⟨#[120]⟩))]) fun v55 =>
 ob (oBuild pg T_api_Value []) fun v56 =>
 ob (rLdA h52.get 3 v35) fun v57 =>
 al (aBuildS pg h52.n T_Lapi_Value 4 [(0, v54), (1, v55), (2, v56), (3, v57)]) h52 fun v58 h59 =>
 hv (call (.fn N_table_Table_Insert) [v51, v58] h59) fun v60 h61 l62 =>
 ob (rExtract 0 v60) fun v63 =>
 ob (rExtract 1 v60) fun v64 =>
 dr [0, 1, 0, 0, 0, 0, 60, 127, 255, 511, 511, 1023, 4095] [mP h48, mH h48 (rdL [(nt vs31 0), (.string ⟨#[115, 104, 111, 112]⟩)]) l53 h52, mR h52 (rdP v35), mP h52, mP h52, mR h52 (rdP v35), mA h52 [], mH h59 (rdL [v51, v58]) l62 h61, mP h61, mP h61, mP h61, mP h61, mP h61] fun l65 =>
 al (aBuildS pg h61.n T_api_Path 2 [(0, (.string ⟨#[108, 97, 110, 100]⟩)), (1, (.string ⟨#[110, 97, 109, 101]⟩))]) h61 fun v66 h67 =>
 hv (call (.fn N_data_DB_Value) [(nt vs31 0), (.string ⟨#[115, 104, 111, 112]⟩), v63, v66] h67) fun v68 h69 l70 =>
 ob (rExtract 0 v68) fun v71 =>
 ob (rExtract 1 v68) fun v72 =>
 al (aNew h69.n T_api_Value [(.int .i64 0), (.int .i64 0), (.string ⟨#[]⟩)]) h69 fun v73 h74 =>
 hv (rStore h74 3 v73 v71) fun v75 h76 l77 =>
 al (aBuildS pg h76.n T_api_Path 1 [(0, (.string ⟨#[122, 111, 110, 101]⟩))]) h76 fun v78 h79 =>
 hv (call (.fn N_data_DB_Value) [(nt vs31 0), (.string ⟨#[115, 104, 111, 112]⟩), v63, v78] h79) fun v80 h81 l82 =>
 ob (rExtract 0 v80) fun v83 =>
 ob (rExtract 1 v80) fun v84 =>
 al (aNew h81.n T_api_Value [(.int .i64 0), (.int .i64 0), (.string ⟨#[]⟩)]) h81 fun v85 h86 =>
 hv (rStore h86 3 v85 v83) fun v87 h88 l89 =>
 al (aBuildS pg h88.n T_api_Path 1 [(0, (.string ⟨#[122, 111, 110, 101]⟩))]) h88 fun v90 h91 =>
 hv (call (.fn N_data_DB_Value) [(nt vs31 0), (.string ⟨#[115, 104, 111, 112]⟩), (.int .i64 9), v90] h91) fun v92 h93 l94 =>
 ob (rExtract 0 v92) fun v95 =>
 ob (rExtract 1 v92) fun v96 =>
 al (aNew h93.n T_api_Value [(.int .i64 0), (.int .i64 0), (.string ⟨#[]⟩)]) h93 fun v97 h98 =>
 hv (rStore h98 3 v97 v95) fun v99 h100 l101 =>
 ob (rLdA h100.get 3 v35) fun v102 =>
 hv (call (.fn N_data_DB_ByKey) [(nt vs31 0), (.string ⟨#[108, 97, 110, 100]⟩), v102] h100) fun v103 h104 l105 =>
 ob (rExtract 0 v103) fun v106 =>
 ob (rExtract 1 v103) fun v107 =>
 hv (call (.fn N_asterismlaw11_Begun) [] h104) fun v108 h109 l110 =>
 gP (gd v108 true) (some v64) fun v111 =>
 gP (gd v108 true) (bI .eql v111 (.int .i64 0)) fun v112 =>
 ob (rPick v108 v112 (.bool false)) fun v113 =>
 gP (gd v113 true) (some v72) fun v114 =>
 ob (rPick v113 v114 (.bool false)) fun v115 =>
 gP (gd v115 true) (rFld 2 v73) fun v116 =>
 gP (gd v115 true) (rLd1 h109.get v116) fun v117 =>
 gP (gd v115 true) (binV pg.ty (tyD .string) .eql v117 (.string ⟨#[104, 101, 114, 101]⟩)) fun v118 =>
 ob (rPick v115 v118 (.bool false)) fun v119 =>
 gP (gd v119 true) (some v84) fun v120 =>
 ob (rPick v119 v120 (.bool false)) fun v121 =>
 gP (gd v121 true) (rFld 0 v85) fun v122 =>
 gP (gd v121 true) (rLd1 h109.get v122) fun v123 =>
 gP (gd v121 true) (bI .eql v123 (.int .i64 0)) fun v124 =>
 ob (rPick v121 v124 (.bool false)) fun v125 =>
 gP (gd v125 true) (some v96) fun v126 =>
 gP (gd v125 true) (unV .not v126) fun v127 =>
 ob (rPick v125 v127 (.bool false)) fun v128 =>
 gP (gd v128 true) (some v106) fun v129 =>
 gP (gd v128 true) (bI .eql v129 (.int .i64 0)) fun v130 =>
 ob (rPick v128 v130 (.bool false)) fun v131 =>
 gP (gd v131 true) (some v107) fun v132 =>
 ob (rPick v131 v132 (.bool false)) fun v133 =>
 gP (gd v133 true) (some (nt vs31 0)) fun v134 =>
 hv (gV (gd v133 true) (call (.fn N_data_DB_Copy) [v134] h109) h109) fun v135 h136 l137 =>
 gP (gd v133 true) (binV pg.ty (tyD (.pointer 0)) .neq v135 (.pointer none)) fun v138 =>
 ob (rPick v133 v138 (.bool false)) fun v139 =>
 fin h (rsT v139 (some [])) h136 (l137 ++ (l110 ++ (l105 ++ (l101 ++ (l94 ++ (l89 ++ (l82 ++ (l77 ++ (l70 ++ (l65 ++ (l50 ++ (l39 ++ l33))))))))))))) fun j30 => fork v29
 (fin h (rsT (.bool false) (some [])) h26 (l27 ++ (l21 ++ (l15 ++ (l9 ++ (l2 ++ []))))))
 (j30 [v3, poison, poison, poison, poison, poison, poison, poison, poison, poison, poison, poison, poison, poison, poison, poison, poison, poison, poison] h26 (l27 ++ (l21 ++ (l15 ++ (l9 ++ (l2 ++ []))))))

-- 12 asterism/asterismlaw12.Star
noncomputable def F_asterismlaw12_Star_L250 (call : CallF) (lp : LoopF) : List Value → H → Option LOut := fun vs13 h14 =>
 ob (rLenL (nt vs13 4)) fun v15 =>
 ob (bI .lss (nt vs13 5) v15) fun v16 =>
 jn3 (fun vs18 h19 l20 =>
 jn3 (fun vs22 h23 l24 =>
 ob (bI .add (nt vs22 5) (.int .i64 1)) fun v25 =>
 some ⟨.normal, [(nt vs22 0), (nt vs22 1), (nt vs22 2), (nt vs22 3), (nt vs22 4), v25], h23, l24⟩) fun j21 =>
 ob (rIdxS 4 (nt vs18 4) (nt vs18 5)) fun v26 =>
 ob (rLdA h19.get 4 v26) fun v27 =>
 hv (call (.fn N_data_DB_Add) [(nt vs18 2), v27] h19) fun v28 h29 l30 =>
 ob (rIdxS 4 (nt vs18 4) (nt vs18 5)) fun v31 =>
 ob (rLdA h29.get 4 v31) fun v32 =>
 hv (call (.fn N_asterismref12_DB_Add) [(nt vs18 3), v32] h29) fun v33 h34 l35 =>
 j21 [(nt vs18 0), (nt vs18 1), (nt vs18 2), (nt vs18 3), (nt vs18 4), (nt vs18 5)] h34 (l35 ++ (l30 ++ l20))) fun j17 => fork v16
 (j17 [(nt vs13 0), (nt vs13 1), (nt vs13 2), (nt vs13 3), (nt vs13 4), (nt vs13 5)] h14 [])
 (some ⟨(.exit 0), [(nt vs13 0), (nt vs13 1), (nt vs13 2), (nt vs13 3), (nt vs13 4), (nt vs13 5)], h14, []⟩)
noncomputable def F_asterismlaw12_Star (call : CallF) (lp : LoopF) (h : H) : Option (Value × H × List Nat) :=
 hv (call (.fn N_data_New) [] h) fun v0 h1 l2 =>
 ob (oBuild pg T_asterismref12_DB []) fun v3 =>
 al (aBx h1.n T_asterismref12_DB 3 v3) h1 fun v4 h5 =>
 hv (call (.fn N_asterismlaw9_Star) [] h5) fun v6 h7 l8 =>
 jn3 (fun vs10 h11 l12 =>
 fin h (rsT (nt vs10 0) (rsT (nt vs10 1) (some []))) h11 l12) fun j9 =>
 ob (lp (F_asterismlaw12_Star_L250 call lp) [(.pointer none), (.pointer none), v0, v4, v6, (.int .i64 0)] h7) fun o36 =>
 onEx o36.ex (j9 [(nt o36.vs 2), (nt o36.vs 3)] o36.h (o36.lg ++ (l8 ++ (l2 ++ [])))) (fun i37 => bif Nat.beq i37 0 then j9 [(nt o36.vs 2), (nt o36.vs 3)] o36.h (o36.lg ++ (l8 ++ (l2 ++ []))) else none) (fin h (rsT (nt o36.vs 0) (rsT (nt o36.vs 1) (some []))) o36.h (o36.lg ++ (l8 ++ (l2 ++ []))))

-- 15 (*asterism/data.DB).Copy
noncomputable def F_data_DB_Copy_L250 (call : CallF) (lp : LoopF) : List Value → H → Option LOut := fun vs19 h20 =>
 ob (bI .lss (nt vs19 5) (nt vs19 4)) fun v21 =>
 jn3 (fun vs23 h24 l25 =>
 jn3 (fun vs27 h28 l29 =>
 ob (bI .add (nt vs27 5) (.int .i64 1)) fun v30 =>
 some ⟨.normal, [(nt vs27 0), (nt vs27 1), (nt vs27 2), (nt vs27 3), (nt vs27 4), v30], h28, l29⟩) fun j26 =>
 ob (rIdxS 1 (nt vs23 3) (nt vs23 5)) fun v31 =>
 ob (rLd1 h24.get v31) fun v32 =>
 ob (rNil (nt vs23 0)) fun v33 =>
 ob (rFld 0 v33) fun v34 =>
 ob (rLd1 h24.get v34) fun v35 =>
 hv (call (.fn N_schema_Schema_Find) [v35, v32] h24) fun v36 h37 l38 =>
 ob (rExtract 0 v36) fun v39 =>
 ob (rExtract 1 v36) fun v40 =>
 al (aNew h37.n T_api_Table [(.string ⟨#[]⟩), (.slice none 0 0), (.string ⟨#[]⟩), (.slice none 0 0)]) h37 fun v41 h42 =>
 hv (rStore h42 4 v41 v39) fun v43 h44 l45 =>
 ob (rNil (nt vs23 2)) fun v46 =>
 ob (rFld 0 v46) fun v47 =>
 ob (rLd1 h44.get v47) fun v48 =>
 ob (rLdA h44.get 4 v41) fun v49 =>
 hv (call (.fn N_schema_Schema_Add) [v48, v49] h44) fun v50 h51 l52 =>
 dr [0, 1, 3, 7, 0, 31] [mP h44, mP h44, mP h44, mR h44 (rdP v47), mR h44 (rdP v41), mH h44 (rdL [v48, v49]) l52 h51] fun l53 =>
 ob (rNil (nt vs23 2)) fun v54 =>
 ob (rFld 1 v54) fun v55 =>
 ob (rLd1 h51.get v55) fun v56 =>
 ob (rNil (nt vs23 0)) fun v57 =>
 ob (rFld 1 v57) fun v58 =>
 ob (rLd1 h51.get v58) fun v59 =>
 ob (oLk pg h51.get T_MstringPtable_Table v59 v32 false) fun v60 =>
 hv (call (.fn N_table_Table_Copy) [v60] h51) fun v61 h62 l63 =>
 hv (rMapUpd h62 v56 v32 v61) fun v64 h65 l66 =>
 dr [0, 1, 3, 7, 0, 0, 32, 96, 224, 0, 992, 2016, 4095] [mP h51, mP h51, mP h51, mR h51 (rdP v55), mP h51, mP h51, mP h51, mP h51, mR h51 (rdP v58), mP h51, mR h51 (rdM v59), mH h51 (rdL [v60]) l63 h62, mH h62 [] l66 h65] fun l67 =>
 j26 [(nt vs23 0), (nt vs23 1), (nt vs23 2), (nt vs23 3), (nt vs23 4), (nt vs23 5)] h65 (l67 ++ (l53 ++ (l45 ++ (l38 ++ l25))))) fun j22 => fork v21
 (j22 [(nt vs19 0), (nt vs19 1), (nt vs19 2), (nt vs19 3), (nt vs19 4), (nt vs19 5)] h20 [])
 (some ⟨(.exit 0), [(nt vs19 0), (nt vs19 1), (nt vs19 2), (nt vs19 3), (nt vs19 4), (nt vs19 5)], h20, []⟩)
noncomputable def F_data_DB_Copy (call : CallF) (lp : LoopF) (x0 : Value) (h : H) : Option (Value × H × List Nat) :=
 ob (binV pg.ty (tyD (.pointer 0)) .eql x0 (.pointer none)) fun v0 =>
 jn3 (fun vs2 h3 l4 =>
 hv (call (.fn N_data_New) [] h3) fun v5 h6 l7 =>
 ob (rNil (nt vs2 0)) fun v8 =>
 ob (rFld 0 v8) fun v9 =>
 ob (rLd1 h6.get v9) fun v10 =>
 hv (call (.fn N_schema_Schema_Names) [v10] h6) fun v11 h12 l13 =>
 ob (rLenL v11) fun v14 =>
 jn3 (fun vs16 h17 l18 =>
 fin h (rsT (nt vs16 0) (some [])) h17 l18) fun j15 =>
 ob (lp (F_data_DB_Copy_L250 call lp) [(nt vs2 0), (nt vs2 1), v5, v11, v14, (.int .i64 0)] h12) fun o68 =>
 onEx o68.ex (j15 [(nt o68.vs 2)] o68.h (o68.lg ++ (l13 ++ (l7 ++ l4)))) (fun i69 => bif Nat.beq i69 0 then j15 [(nt o68.vs 2)] o68.h (o68.lg ++ (l13 ++ (l7 ++ l4))) else none) (fin h (rsT (nt o68.vs 1) (some [])) o68.h (o68.lg ++ (l13 ++ (l7 ++ l4))))) fun j1 => fork v0
 (fin h (rsT (.pointer none) (some [])) h [])
 (j1 [x0, (.pointer none)] h [])

-- 16 (*asterism/data.DB).ByKey
noncomputable def F_data_DB_ByKey (call : CallF) (lp : LoopF) (x0 : Value) (x1 : Value) (x2 : Value) (h : H) : Option (Value × H × List Nat) :=
 al (aBx h.n T_api_Value 3 x2) h fun v0 h1 =>
 al (aNew h1.n T_i64_b [(.int .i64 0)]) h1 fun v2 h3 =>
 al (aNew h3.n T_bool [(.bool false)]) h3 fun v4 h5 =>
 hv (call (.fn N_data_DB_Table) [x0, x1] h5) fun v6 h7 l8 =>
 al (aNew h7.n T_Ptable_Table [(.pointer none)]) h7 fun v9 h10 =>
 hv (rStore h10 1 v9 v6) fun v11 h12 l13 =>
 ob (rLd1 h12.get v9) fun v14 =>
 hv (call (.fn N_table_Table_Form) [v14] h12) fun v15 h16 l17 =>
 ob (rPart1 2 v15) fun v18 =>
 al (aNew h16.n T_string [(.string ⟨#[]⟩)]) h16 fun v19 h20 =>
 hv (rStore h20 1 v19 v18) fun v21 h22 l23 =>
 ob (rLd1 h22.get v19) fun v24 =>
 ob (binV pg.ty (tyD .string) .eql v24 (.string ⟨#[]⟩)) fun v25 =>
 gP (gd v25 false) (rFld 0 v0) fun v26 =>
 gP (gd v25 false) (rLd1 h22.get v26) fun v27 =>
 gP (gd v25 false) (bI .eql v27 (.int .i64 0)) fun v28 =>
 ob (rPick v25 (.bool true) v28) fun v29 =>
 jn3 (fun vs31 h32 l33 =>
 ob (rLd1 h32.get (nt vs31 3)) fun v34 =>
 hv (call (.fn N_table_Table_Live) [v34] h32) fun v35 h36 l37 =>
 hv (call (.fn N_bitmap_Map_All) [v35] h36) fun v38 h39 l40 =>
 jn3 (fun vs42 h43 l44 =>
 hv (rStore h43 1 (nt vs42 0) (.int .i64 0)) fun v45 h46 l47 =>
 hv (rStore h46 1 (nt vs42 1) (.bool false)) fun v48 h49 l50 =>
 fin h (rsK (rLd1 h49.get (nt vs42 0)) (rsK (rLd1 h49.get (nt vs42 1)) (some []))) h49 (l50 ++ (l47 ++ l44))) fun j41 =>
 ob (rangeV call N_data_DB_ByKey ((((Env.ofList [5, 6, 7, 8, 9] vs31).set 26 v34).set 27 v35).set 28 v38) h39 v38 #[29] (rfA (cAt [1, 1, 1, 1, 0, 1, 0] (Tryz.f16.body.getD .skip))) (rfB (cAt [1, 1, 1, 1, 0, 1, 0] (Tryz.f16.body.getD .skip)))) fun r51 =>
 onEx r51.1 (j41 [(nt vs31 1), (nt vs31 2)] r51.2.1 (r51.2.2 ++ (l40 ++ (l37 ++ l33)))) (fun i52 => bif Nat.beq i52 0 then j41 [(nt vs31 1), (nt vs31 2)] r51.2.1 (r51.2.2 ++ (l40 ++ (l37 ++ l33))) else none) (fin h (rsK (rLd1 r51.2.1.get (nt vs31 1)) (rsK (rLd1 r51.2.1.get (nt vs31 2)) (some []))) r51.2.1 (r51.2.2 ++ (l40 ++ (l37 ++ l33))))) fun j30 => fork v29
 (hv (rStore h22 1 v2 (.int .i64 0)) fun v53 h54 l55 =>
 hv (rStore h54 1 v4 (.bool false)) fun v56 h57 l58 =>
 fin h (rsK (rLd1 h57.get v2) (rsK (rLd1 h57.get v4) (some []))) h57 (l58 ++ (l55 ++ (l23 ++ (l17 ++ (l13 ++ (l8 ++ [])))))))
 (j30 [v0, v2, v4, v9, v19] h22 (l23 ++ (l17 ++ (l13 ++ (l8 ++ [])))))

-- 18 (*asterism/data.DB).Value
noncomputable def F_data_DB_Value_L122 (call : CallF) (lp : LoopF) : List Value → H → Option LOut := fun vs59 h60 =>
 ob (bI .lss (nt vs59 8) (nt vs59 7)) fun v61 =>
 jn3 (fun vs63 h64 l65 =>
 jn3 (fun vs67 h68 l69 =>
 ob (bI .add (nt vs67 8) (.int .i64 1)) fun v70 =>
 some ⟨.normal, [(nt vs67 0), (nt vs67 1), (nt vs67 2), (nt vs67 3), (nt vs67 4), (nt vs67 5), (nt vs67 6), (nt vs67 7), v70], h68, l69⟩) fun j66 =>
 ob (rIdxS 1 (nt vs63 6) (nt vs63 8)) fun v71 =>
 ob (rLd1 h64.get v71) fun v72 =>
 ob (rNil (nt vs63 0)) fun v73 =>
 ob (rFld 0 v73) fun v74 =>
 ob (rLd1 h64.get v74) fun v75 =>
 hv (call (.fn N_schema_Schema_Col) [v75, (nt vs63 1), v72] h64) fun v76 h77 l78 =>
 ob (rExtract 0 v76) fun v79 =>
 ob (rExtract 1 v76) fun v80 =>
 al (aNew h77.n T_api_Col [(.string ⟨#[]⟩), (.int .i64 0), (.bool false), (.string ⟨#[]⟩)]) h77 fun v81 h82 =>
 hv (rStore h82 4 v81 v79) fun v83 h84 l85 =>
 hv (call (.fn N_data_DB_Table) [(nt vs63 0), (nt vs63 1)] h84) fun v86 h87 l88 =>
 hv (call (.fn N_table_Table_Get) [v86, (nt vs63 2), v72] h87) fun v89 h90 l91 =>
 ob (rExtract 0 v89) fun v92 =>
 ob (rExtract 1 v89) fun v93 =>
 al (aNew h90.n T_api_Value [(.int .i64 0), (.int .i64 0), (.string ⟨#[]⟩)]) h90 fun v94 h95 =>
 hv (rStore h95 3 v94 v92) fun v96 h97 l98 =>
 ob (rFld 3 v81) fun v99 =>
 ob (rLd1 h97.get v99) fun v100 =>
 ob (rLdA h97.get 3 v94) fun v101 =>
 hv (call (.fn N_data_DB_ByKey) [(nt vs63 0), v100, v101] h97) fun v102 h103 l104 =>
 ob (rExtract 0 v102) fun v105 =>
 ob (rExtract 1 v102) fun v106 =>
 ob (unV .not v106) fun v107 =>
 jn3 (fun vs109 h110 l111 =>
 ob (rFld 3 (nt vs109 4)) fun v112 =>
 ob (rLd1 h110.get v112) fun v113 =>
 j66 [(nt vs109 0), v113, (nt vs109 5), (nt vs109 1), (nt vs109 2), (nt vs109 3), (nt vs109 6), (nt vs109 7), (nt vs109 8)] h110 l111) fun j108 => fork v107
 (ob (oBuild pg T_api_Value []) fun v114 =>
 hv (rStore h103 3 (nt vs63 4) v114) fun v115 h116 l117 =>
 some ⟨.ret, [(nt vs63 0), (nt vs63 1), (nt vs63 2), (nt vs63 3), (nt vs63 4), (.bool true), (nt vs63 6), (nt vs63 7), (nt vs63 8)], h116, (l117 ++ (l104 ++ (l98 ++ (l91 ++ (l88 ++ (l85 ++ (l78 ++ l65)))))))⟩)
 (j108 [(nt vs63 0), (nt vs63 3), (nt vs63 4), (nt vs63 5), v81, v105, (nt vs63 6), (nt vs63 7), (nt vs63 8)] h103 (l104 ++ (l98 ++ (l91 ++ (l88 ++ (l85 ++ (l78 ++ l65)))))))) fun j62 => fork v61
 (j62 [(nt vs59 0), (nt vs59 1), (nt vs59 2), (nt vs59 3), (nt vs59 4), (nt vs59 5), (nt vs59 6), (nt vs59 7), (nt vs59 8)] h60 [])
 (some ⟨(.exit 0), [(nt vs59 0), (nt vs59 1), (nt vs59 2), (nt vs59 3), (nt vs59 4), (nt vs59 5), (nt vs59 6), (nt vs59 7), (nt vs59 8)], h60, []⟩)
noncomputable def F_data_DB_Value (call : CallF) (lp : LoopF) (x0 : Value) (x1 : Value) (x2 : Value) (x3 : Value) (h : H) : Option (Value × H × List Nat) :=
 al (aNew h.n T_api_Value [(.int .i64 0), (.int .i64 0), (.string ⟨#[]⟩)]) h fun v0 h1 =>
 hv (call (.fn N_data_DB_Schema) [x0] h1) fun v2 h3 l4 =>
 hv (call (.fn N_path_Col) [v2, x1, x3] h3) fun v5 h6 l7 =>
 ob (rExtract 0 v5) fun v8 =>
 ob (rExtract 1 v5) fun v9 =>
 ob (rExtract 2 v5) fun v10 =>
 al (aNew h6.n T_api_Col [(.string ⟨#[]⟩), (.int .i64 0), (.bool false), (.string ⟨#[]⟩)]) h6 fun v11 h12 =>
 hv (rStore h12 4 v11 v8) fun v13 h14 l15 =>
 ob (bI .neq v10 (.int .i64 0)) fun v16 =>
 gP (gd v16 false) (some x0) fun v17 =>
 gP (gd v16 false) (some x1) fun v18 =>
 hv (gV (gd v16 false) (call (.fn N_data_DB_Table) [v17, v18] h14) h14) fun v19 h20 l21 =>
 hv (gV (gd v16 false) (call (.fn N_table_Table_Live) [v19] h20) h20) fun v22 h23 l24 =>
 gP (gd v16 false) (some x2) fun v25 =>
 hv (gV (gd v16 false) (call (.fn N_bitmap_Map_Has) [v22, v25] h23) h23) fun v26 h27 l28 =>
 gP (gd v16 false) (unV .not v26) fun v29 =>
 ob (rPick v16 (.bool true) v29) fun v30 =>
 jn3 (fun vs32 h33 l34 =>
 ob (rLenL (nt vs32 3)) fun v35 =>
 ob (bI .sub v35 (.int .i64 1)) fun v36 =>
 ob (rSl h33.get T_string 1 (nt vs32 3) none (some v36) none) fun v37 =>
 ob (rLenL v37) fun v38 =>
 jn3 (fun vs40 h41 l42 =>
 hv (call (.fn N_data_DB_Table) [(nt vs40 0), (nt vs40 1)] h41) fun v43 h44 l45 =>
 ob (rLenL (nt vs40 3)) fun v46 =>
 ob (bI .sub v46 (.int .i64 1)) fun v47 =>
 ob (rIdxS 1 (nt vs40 3) v47) fun v48 =>
 ob (rLd1 h44.get v48) fun v49 =>
 hv (call (.fn N_table_Table_Get) [v43, (nt vs40 2), v49] h44) fun v50 h51 l52 =>
 ob (rExtract 0 v50) fun v53 =>
 ob (rExtract 1 v50) fun v54 =>
 hv (rStore h51 3 (nt vs40 4) v53) fun v55 h56 l57 =>
 dr [0, 0, 3, 0, 0, 0, 32, 96, 240, 496, 1023, 2047, 2047, 8191, 16383] [mP h41, mP h41, mH h41 (rdL [(nt vs40 0), (nt vs40 1)]) l45 h44, mP h44, mP h44, mP h44, mR h44 (rdL [(nt vs40 3)]), mP h44, mP h44, mR h44 (rdP v48), mH h44 (rdL [v43, (nt vs40 2), v49]) l52 h51, mP h51, mP h51, mH h51 [] l57 h56, mP h56] fun l58 =>
 fin h (rsK (rLdA h56.get 3 (nt vs40 4)) (rsT v54 (some []))) h56 (l58 ++ l42)) fun j39 =>
 ob (lp (F_data_DB_Value_L122 call lp) [(nt vs32 0), (nt vs32 1), (nt vs32 2), (nt vs32 3), (nt vs32 4), (nt vs32 5), v37, v38, (.int .i64 0)] h33) fun o118 =>
 onEx o118.ex (j39 [(nt o118.vs 0), (nt o118.vs 1), (nt o118.vs 2), (nt o118.vs 3), (nt o118.vs 4)] o118.h (o118.lg ++ l34)) (fun i119 => bif Nat.beq i119 0 then j39 [(nt o118.vs 0), (nt o118.vs 1), (nt o118.vs 2), (nt o118.vs 3), (nt o118.vs 4)] o118.h (o118.lg ++ l34) else none) (fin h (rsK (rLdA o118.h.get 3 (nt o118.vs 4)) (rsT (nt o118.vs 5) (some []))) o118.h (o118.lg ++ l34))) fun j31 => fork v30
 (ob (oBuild pg T_api_Value []) fun v120 =>
 hv (rStore h27 3 v0 v120) fun v121 h122 l123 =>
 fin h (rsK (rLdA h122.get 3 v0) (rsT (.bool false) (some []))) h122 (l123 ++ (l28 ++ (l24 ++ (l21 ++ (l15 ++ (l7 ++ (l4 ++ []))))))))
 (j31 [x0, x1, x2, x3, v0, (.bool false)] h27 (l28 ++ (l24 ++ (l21 ++ (l15 ++ (l7 ++ (l4 ++ [])))))))

-- 24 asterism/asterismlaw13.begun
noncomputable def F_asterismlaw13_begun (call : CallF) (lp : LoopF) (h : H) : Option (Value × H × List Nat) :=
 hv (call (.fn N_asterismlaw12_Star) [] h) fun v0 h1 l2 =>
 ob (rExtract 0 v0) fun v3 =>
 ob (rExtract 1 v0) fun v4 =>
 ob (binV pg.ty (tyD (.pointer 0)) .eql v3 (.pointer none)) fun v5 =>
 gP (gd v5 false) (some v3) fun v6 =>
 hv (gV (gd v5 false) (call (.fn N_data_DB_Table) [v6, (.string ⟨#[108, 97, 110, 100]⟩)] h1) h1) fun v7 h8 l9 =>
 gP (gd v5 false) (binV pg.ty (tyD (.pointer 0)) .eql v7 (.pointer none)) fun v10 =>
 ob (rPick v5 (.bool true) v10) fun v11 =>
 jn3 (fun vs13 h14 l15 =>
 hv (call (.fn N_asterismlaw13_num) [(.int .i64 5)] h14) fun v16 h17 l18 =>
 hv (call (.fn N_asterismlaw13_text) [(.string ⟨#[97]⟩)] h17) fun v19 h20 l21 =>
 al (aBuildS pg h20.n T_Lapi_Value 2 [(0, v16), (1, v19)]) h20 fun v22 h23 =>
 ob (oBuild pg T_api_Op [(0, (.int .i64 1)), (1, (.string ⟨#[108, 97, 110, 100]⟩)), (4, v22)]) fun v24 =>
 hv (call (.fn N_asterismlaw13_text) [(.string ⟨#[98]⟩)] h23) fun v25 h26 l27 =>
 al (aBuildS pg h26.n T_Lapi_Value 1 [(0, v25)]) h26 fun v28 h29 =>
 ob (oBuild pg T_api_Op [(0, (.int .i64 3)), (1, (.string ⟨#[108, 97, 110, 100]⟩)), (3, (.string ⟨#[110, 97, 109, 101]⟩)), (4, v28)]) fun v30 =>
 al (aBuildS pg h29.n T_Lapi_Op 2 [(0, v24), (1, v30)]) h29 fun v31 h32 =>
 hv (call (.fn N_batch_Apply) [(nt vs13 0), v31] h32) fun v33 h34 l35 =>
 ob (rExtract 0 v33) fun v36 =>
 ob (rExtract 1 v33) fun v37 =>
 al (aNew h34.n T_api_Fault [(.int .i64 0), (.int .i64 0), (.string ⟨#[]⟩), (.int .i64 0), (.string ⟨#[]⟩)]) h34 fun v38 h39 =>
 hv (rStore h39 5 v38 v37) fun v40 h41 l42 =>
 ob (oBuild pg T_api_Op [(0, (.int .i64 2)), (1, (.string ⟨#[108, 97, 110, 100]⟩))]) fun v43 =>
 ob (oBuild pg T_api_Op [(0, (.int .i64 2)), (1, (.string ⟨#[108, 97, 110, 100]⟩))]) fun v44 =>
 al (aBuildS pg h41.n T_Lapi_Op 2 [(0, v43), (1, v44)]) h41 fun v45 h46 =>
 hv (call (.fn N_batch_Apply) [(nt vs13 0), v45] h46) fun v47 h48 l49 =>
 ob (rExtract 0 v47) fun v50 =>
 ob (rExtract 1 v47) fun v51 =>
 al (aNew h48.n T_api_Fault [(.int .i64 0), (.int .i64 0), (.string ⟨#[]⟩), (.int .i64 0), (.string ⟨#[]⟩)]) h48 fun v52 h53 =>
 hv (rStore h53 5 v52 v51) fun v54 h55 l56 =>
 hv (call (.fn N_batch_Apply) [(nt vs13 0), (.slice none 0 0)] h55) fun v57 h58 l59 =>
 ob (rExtract 0 v57) fun v60 =>
 ob (rExtract 1 v57) fun v61 =>
 al (aNew h58.n T_api_Fault [(.int .i64 0), (.int .i64 0), (.string ⟨#[]⟩), (.int .i64 0), (.string ⟨#[]⟩)]) h58 fun v62 h63 =>
 hv (rStore h63 5 v62 v61) fun v64 h65 l66 =>
 hv (call (.fn N_asterismlaw12_Begun) [] h65) fun v67 h68 l69 =>
 gP (gd v67 true) (rFld 0 v38) fun v70 =>
 gP (gd v67 true) (rLd1 h68.get v70) fun v71 =>
 gP (gd v67 true) (bI .eql v71 (.int .i64 0)) fun v72 =>
 ob (rPick v67 v72 (.bool false)) fun v73 =>
 gP (gd v73 true) (some v36) fun v74 =>
 gP (gd v73 true) (rLenL v74) fun v75 =>
 gP (gd v73 true) (bI .eql v75 (.int .i64 1)) fun v76 =>
 ob (rPick v73 v76 (.bool false)) fun v77 =>
 gP (gd v77 true) (some v36) fun v78 =>
 gP (gd v77 true) (rIdxS 1 v78 (.int .i64 0)) fun v79 =>
 gP (gd v77 true) (rLd1 h68.get v79) fun v80 =>
 gP (gd v77 true) (bI .eql v80 (.int .i64 0)) fun v81 =>
 ob (rPick v77 v81 (.bool false)) fun v82 =>
 gP (gd v82 true) (rFld 0 v52) fun v83 =>
 gP (gd v82 true) (rLd1 h68.get v83) fun v84 =>
 gP (gd v82 true) (bI .eql v84 (.int .i64 6)) fun v85 =>
 ob (rPick v82 v85 (.bool false)) fun v86 =>
 gP (gd v86 true) (rFld 1 v52) fun v87 =>
 gP (gd v86 true) (rLd1 h68.get v87) fun v88 =>
 gP (gd v86 true) (bI .eql v88 (.int .i64 1)) fun v89 =>
 ob (rPick v86 v89 (.bool false)) fun v90 =>
 gP (gd v90 true) (rFld 2 v52) fun v91 =>
 gP (gd v90 true) (rLd1 h68.get v91) fun v92 =>
 gP (gd v90 true) (binV pg.ty (tyD .string) .eql v92 (.string ⟨#[108, 97, 110, 100]⟩)) fun v93 =>
 ob (rPick v90 v93 (.bool false)) fun v94 =>
 gP (gd v94 true) (rFld 0 v62) fun v95 =>
 gP (gd v94 true) (rLd1 h68.get v95) fun v96 =>
 gP (gd v94 true) (bI .eql v96 (.int .i64 5)) fun v97 =>
 ob (rPick v94 v97 (.bool false)) fun v98 =>
 fin h (rsT v98 (some [])) h68 (l69 ++ (l66 ++ (l59 ++ (l56 ++ (l49 ++ (l42 ++ (l35 ++ (l27 ++ (l21 ++ (l18 ++ l15))))))))))) fun j12 => fork v11
 (fin h (rsT (.bool false) (some [])) h8 (l9 ++ (l2 ++ [])))
 (j12 [v3, poison, poison, poison, poison, poison, poison, poison, poison, poison, poison, poison, poison, poison, poison, poison, poison, poison, poison, poison, poison, poison, poison] h8 (l9 ++ (l2 ++ [])))

-- 25 asterism/batch.Apply
noncomputable def F_batch_Apply_L250 (call : CallF) (lp : LoopF) : List Value → H → Option LOut := fun vs21 h22 =>
 ob (bI .lss (nt vs21 6) (nt vs21 5)) fun v23 =>
 jn3 (fun vs25 h26 l27 =>
 jn3 (fun vs29 h30 l31 =>
 ob (bI .add (nt vs29 6) (.int .i64 1)) fun v32 =>
 some ⟨.normal, [(nt vs29 0), (nt vs29 1), (nt vs29 2), (nt vs29 3), (nt vs29 4), (nt vs29 5), v32], h30, l31⟩) fun j28 =>
 ob (rIdxS 5 (nt vs25 4) (nt vs25 6)) fun v33 =>
 ob (rLdA h26.get 5 v33) fun v34 =>
 al (aNew h26.n T_api_Op [(.int .i64 0), (.string ⟨#[]⟩), (.int .i64 0), (.string ⟨#[]⟩), (.slice none 0 0)]) h26 fun v35 h36 =>
 hv (rStore h36 5 v35 v34) fun v37 h38 l39 =>
 ob (rLdA h38.get 5 v35) fun v40 =>
 hv (call (.fn N_batch_one) [(nt vs25 0), v40] h38) fun v41 h42 l43 =>
 ob (rExtract 0 v41) fun v44 =>
 ob (rExtract 1 v41) fun v45 =>
 ob (bI .neq v45 (.int .i64 0)) fun v46 =>
 jn3 (fun vs48 h49 l50 =>
 ob (rFld 0 (nt vs48 4)) fun v51 =>
 ob (rLd1 h49.get v51) fun v52 =>
 ob (bI .eql v52 (.int .i64 1)) fun v53 =>
 jn3 (fun vs55 h56 l57 =>
 j28 [(nt vs55 0), (nt vs55 1), (nt vs55 2), (nt vs55 3), (nt vs55 4), (nt vs55 5), (nt vs55 6)] h56 l57) fun j54 => fork v53
 (al (aBuildS pg h49.n T_Li64 1 [(0, (nt vs48 5))]) h49 fun v58 h59 =>
 hv (rApp h59 T_i64_b 1 8 [(.int .i64 0)] (nt vs48 3) v58) fun v60 h61 l62 =>
 j54 [(nt vs48 0), (nt vs48 1), (nt vs48 2), v60, (nt vs48 6), (nt vs48 7), (nt vs48 8)] h61 (l62 ++ l50))
 (j54 [(nt vs48 0), (nt vs48 1), (nt vs48 2), (nt vs48 3), (nt vs48 6), (nt vs48 7), (nt vs48 8)] h49 l50)) fun j47 => fork v46
 (ob (rFld 1 v35) fun v63 =>
 ob (rLd1 h42.get v63) fun v64 =>
 ob (oBuild pg T_api_Fault [(0, v45), (1, (nt vs25 6)), (2, v64)]) fun v65 =>
 hv (rStore h42 5 (nt vs25 2) v65) fun v66 h67 l68 =>
 dr [0, 0, 0, 4, 15, 0, 63] [mP h42, mP h42, mP h42, mR h42 (rdP v63), mP h42, mP h42, mH h42 [] l68 h67] fun l69 =>
 some ⟨.ret, [(nt vs25 0), (.slice none 0 0), (nt vs25 2), (nt vs25 3), (nt vs25 4), (nt vs25 5), (nt vs25 6)], h67, (l69 ++ (l43 ++ (l39 ++ l27)))⟩)
 (j47 [(nt vs25 0), (nt vs25 1), (nt vs25 2), (nt vs25 3), v35, v44, (nt vs25 4), (nt vs25 5), (nt vs25 6)] h42 (l43 ++ (l39 ++ l27)))) fun j24 => fork v23
 (j24 [(nt vs21 0), (nt vs21 1), (nt vs21 2), (nt vs21 3), (nt vs21 4), (nt vs21 5), (nt vs21 6)] h22 [])
 (some ⟨(.exit 0), [(nt vs21 0), (nt vs21 1), (nt vs21 2), (nt vs21 3), (nt vs21 4), (nt vs21 5), (nt vs21 6)], h22, []⟩)
noncomputable def F_batch_Apply (call : CallF) (lp : LoopF) (x0 : Value) (x1 : Value) (h : H) : Option (Value × H × List Nat) :=
 al (aNew h.n T_api_Fault [(.int .i64 0), (.int .i64 0), (.string ⟨#[]⟩), (.int .i64 0), (.string ⟨#[]⟩)]) h fun v0 h1 =>
 ob (rLenL x1) fun v2 =>
 ob (bI .eql v2 (.int .i64 0)) fun v3 =>
 gP (gd v3 false) (some x1) fun v4 =>
 gP (gd v3 false) (rLenL v4) fun v5 =>
 gP (gd v3 false) (bI .gtr v5 (.int .i64 40)) fun v6 =>
 ob (rPick v3 (.bool true) v6) fun v7 =>
 jn3 (fun vs9 h10 l11 =>
 ob (rLenL (nt vs9 1)) fun v12 =>
 jn3 (fun vs14 h15 l16 =>
 ob (oBuild pg T_api_Fault []) fun v17 =>
 hv (rStore h15 5 (nt vs14 0) v17) fun v18 h19 l20 =>
 fin h (rsT (nt vs14 1) (rsK (rLdA h19.get 5 (nt vs14 0)) (some []))) h19 (l20 ++ l16)) fun j13 =>
 ob (lp (F_batch_Apply_L250 call lp) [(nt vs9 0), (nt vs9 2), (nt vs9 3), (.slice none 0 0), (nt vs9 1), v12, (.int .i64 0)] h10) fun o70 =>
 onEx o70.ex (j13 [(nt o70.vs 2), (nt o70.vs 3)] o70.h (o70.lg ++ l11)) (fun i71 => bif Nat.beq i71 0 then j13 [(nt o70.vs 2), (nt o70.vs 3)] o70.h (o70.lg ++ l11) else none) (fin h (rsT (nt o70.vs 1) (rsK (rLdA o70.h.get 5 (nt o70.vs 2)) (some []))) o70.h (o70.lg ++ l11))) fun j8 => fork v7
 (ob (oBuild pg T_api_Fault [(0, (.int .i64 5))]) fun v72 =>
 hv (rStore h1 5 v0 v72) fun v73 h74 l75 =>
 fin h (rsT (.slice none 0 0) (rsK (rLdA h74.get 5 v0) (some []))) h74 (l75 ++ []))
 (j8 [x0, x1, (.slice none 0 0), v0] h1 [])

-- 26 (*asterism/asterismref12.DB).Apply
noncomputable def F_asterismref12_DB_Apply_L250 (call : CallF) (lp : LoopF) : List Value → H → Option LOut := fun vs20 h21 =>
 ob (rLenL (nt vs20 1)) fun v22 =>
 ob (bI .lss (nt vs20 5) v22) fun v23 =>
 jn3 (fun vs25 h26 l27 =>
 jn3 (fun vs29 h30 l31 =>
 ob (bI .add (nt vs29 5) (.int .i64 1)) fun v32 =>
 some ⟨.normal, [(nt vs29 0), (nt vs29 1), (nt vs29 2), (nt vs29 3), (nt vs29 4), v32], h30, l31⟩) fun j28 =>
 ob (rIdxS 5 (nt vs25 1) (nt vs25 5)) fun v33 =>
 ob (rLdA h26.get 5 v33) fun v34 =>
 al (aNew h26.n T_api_Op [(.int .i64 0), (.string ⟨#[]⟩), (.int .i64 0), (.string ⟨#[]⟩), (.slice none 0 0)]) h26 fun v35 h36 =>
 hv (rStore h36 5 v35 v34) fun v37 h38 l39 =>
 ob (rLdA h38.get 5 v35) fun v40 =>
 hv (call (.fn N_asterismref12_DB_one) [(nt vs25 0), v40] h38) fun v41 h42 l43 =>
 ob (rExtract 0 v41) fun v44 =>
 ob (rExtract 1 v41) fun v45 =>
 ob (bI .neq v45 (.int .i64 0)) fun v46 =>
 jn3 (fun vs48 h49 l50 =>
 ob (rFld 0 (nt vs48 6)) fun v51 =>
 ob (rLd1 h49.get v51) fun v52 =>
 ob (bI .eql v52 (.int .i64 1)) fun v53 =>
 jn3 (fun vs55 h56 l57 =>
 j28 [(nt vs55 0), (nt vs55 1), (nt vs55 2), (nt vs55 3), (nt vs55 4), (nt vs55 5)] h56 l57) fun j54 => fork v53
 (al (aBuildS pg h49.n T_Li64 1 [(0, (nt vs48 7))]) h49 fun v58 h59 =>
 hv (rApp h59 T_i64_b 1 8 [(.int .i64 0)] (nt vs48 4) v58) fun v60 h61 l62 =>
 j54 [(nt vs48 0), (nt vs48 1), (nt vs48 2), (nt vs48 3), v60, (nt vs48 5)] h61 (l62 ++ l50))
 (j54 [(nt vs48 0), (nt vs48 1), (nt vs48 2), (nt vs48 3), (nt vs48 4), (nt vs48 5)] h49 l50)) fun j47 => fork v46
 (ob (rFld 1 v35) fun v63 =>
 ob (rLd1 h42.get v63) fun v64 =>
 ob (oBuild pg T_api_Fault [(0, v45), (1, (nt vs25 5)), (2, v64)]) fun v65 =>
 hv (rStore h42 5 (nt vs25 3) v65) fun v66 h67 l68 =>
 dr [0, 0, 0, 4, 15, 0, 63] [mP h42, mP h42, mP h42, mR h42 (rdP v63), mP h42, mP h42, mH h42 [] l68 h67] fun l69 =>
 some ⟨.ret, [(nt vs25 0), (nt vs25 1), (.slice none 0 0), (nt vs25 3), (nt vs25 4), (nt vs25 5)], h67, (l69 ++ (l43 ++ (l39 ++ l27)))⟩)
 (j47 [(nt vs25 0), (nt vs25 1), (nt vs25 2), (nt vs25 3), (nt vs25 4), (nt vs25 5), v35, v44] h42 (l43 ++ (l39 ++ l27)))) fun j24 => fork v23
 (j24 [(nt vs20 0), (nt vs20 1), (nt vs20 2), (nt vs20 3), (nt vs20 4), (nt vs20 5)] h21 [])
 (some ⟨(.exit 0), [(nt vs20 0), (nt vs20 1), (nt vs20 2), (nt vs20 3), (nt vs20 4), (nt vs20 5)], h21, []⟩)
noncomputable def F_asterismref12_DB_Apply (call : CallF) (lp : LoopF) (x0 : Value) (x1 : Value) (h : H) : Option (Value × H × List Nat) :=
 al (aNew h.n T_api_Fault [(.int .i64 0), (.int .i64 0), (.string ⟨#[]⟩), (.int .i64 0), (.string ⟨#[]⟩)]) h fun v0 h1 =>
 ob (rLenL x1) fun v2 =>
 ob (bI .eql v2 (.int .i64 0)) fun v3 =>
 gP (gd v3 false) (some x1) fun v4 =>
 gP (gd v3 false) (rLenL v4) fun v5 =>
 gP (gd v3 false) (bI .gtr v5 (.int .i64 40)) fun v6 =>
 ob (rPick v3 (.bool true) v6) fun v7 =>
 jn3 (fun vs9 h10 l11 =>
 jn3 (fun vs13 h14 l15 =>
 ob (oBuild pg T_api_Fault []) fun v16 =>
 hv (rStore h14 5 (nt vs13 0) v16) fun v17 h18 l19 =>
 fin h (rsT (nt vs13 1) (rsK (rLdA h18.get 5 (nt vs13 0)) (some []))) h18 (l19 ++ l15)) fun j12 =>
 ob (lp (F_asterismref12_DB_Apply_L250 call lp) [(nt vs9 0), (nt vs9 1), (nt vs9 2), (nt vs9 3), (.slice none 0 0), (.int .i64 0)] h10) fun o70 =>
 onEx o70.ex (j12 [(nt o70.vs 3), (nt o70.vs 4)] o70.h (o70.lg ++ l11)) (fun i71 => bif Nat.beq i71 0 then j12 [(nt o70.vs 3), (nt o70.vs 4)] o70.h (o70.lg ++ l11) else none) (fin h (rsT (nt o70.vs 2) (rsK (rLdA o70.h.get 5 (nt o70.vs 3)) (some []))) o70.h (o70.lg ++ l11))) fun j8 => fork v7
 (ob (oBuild pg T_api_Fault [(0, (.int .i64 5))]) fun v72 =>
 hv (rStore h1 5 v0 v72) fun v73 h74 l75 =>
 fin h (rsT (.slice none 0 0) (rsK (rLdA h74.get 5 v0) (some []))) h74 (l75 ++ []))
 (j8 [x0, x1, (.slice none 0 0), v0] h1 [])

-- 27 asterism/asterismlaw13.EqFault
noncomputable def F_asterismlaw13_EqFault (call : CallF) (lp : LoopF) (x0 : Value) (x1 : Value) (h : H) : Option (Value × H × List Nat) :=
 al (aBx h.n T_api_Fault 5 x0) h fun v0 h1 =>
 al (aBx h1.n T_api_Fault 5 x1) h1 fun v2 h3 =>
 ob (rFld 0 v0) fun v4 =>
 ob (rLd1 h3.get v4) fun v5 =>
 ob (rFld 0 v2) fun v6 =>
 ob (rLd1 h3.get v6) fun v7 =>
 ob (bI .eql v5 v7) fun v8 =>
 gP (gd v8 true) (rFld 1 v0) fun v9 =>
 gP (gd v8 true) (rLd1 h3.get v9) fun v10 =>
 gP (gd v8 true) (rFld 1 v2) fun v11 =>
 gP (gd v8 true) (rLd1 h3.get v11) fun v12 =>
 gP (gd v8 true) (bI .eql v10 v12) fun v13 =>
 ob (rPick v8 v13 (.bool false)) fun v14 =>
 gP (gd v14 true) (rFld 2 v0) fun v15 =>
 gP (gd v14 true) (rLd1 h3.get v15) fun v16 =>
 gP (gd v14 true) (rFld 2 v2) fun v17 =>
 gP (gd v14 true) (rLd1 h3.get v17) fun v18 =>
 gP (gd v14 true) (binV pg.ty (tyD .string) .eql v16 v18) fun v19 =>
 ob (rPick v14 v19 (.bool false)) fun v20 =>
 gP (gd v20 true) (rFld 3 v0) fun v21 =>
 gP (gd v20 true) (rLd1 h3.get v21) fun v22 =>
 gP (gd v20 true) (rFld 3 v2) fun v23 =>
 gP (gd v20 true) (rLd1 h3.get v23) fun v24 =>
 gP (gd v20 true) (bI .eql v22 v24) fun v25 =>
 ob (rPick v20 v25 (.bool false)) fun v26 =>
 gP (gd v26 true) (rFld 4 v0) fun v27 =>
 gP (gd v26 true) (rLd1 h3.get v27) fun v28 =>
 gP (gd v26 true) (rFld 4 v2) fun v29 =>
 gP (gd v26 true) (rLd1 h3.get v29) fun v30 =>
 gP (gd v26 true) (binV pg.ty (tyD .string) .eql v28 v30) fun v31 =>
 ob (rPick v26 v31 (.bool false)) fun v32 =>
 fin h (rsT v32 (some [])) h3 []

-- 30 asterism/asterismlaw13.num
noncomputable def F_asterismlaw13_num (call : CallF) (lp : LoopF) (x0 : Value) (h : H) : Option (Value × H × List Nat) :=
 al (aNew h.n T_api_Value [(.int .i64 0), (.int .i64 0), (.string ⟨#[]⟩)]) h fun v0 h1 =>
 ob (oBuild pg T_api_Value [(0, (.int .i64 1)), (1, x0)]) fun v2 =>
 hv (rStore h1 3 v0 v2) fun v3 h4 l5 =>
 fin h (rsK (rLdA h4.get 3 v0) (some [])) h4 (l5 ++ [])

-- 31 asterism/asterismlaw13.text
noncomputable def F_asterismlaw13_text (call : CallF) (lp : LoopF) (x0 : Value) (h : H) : Option (Value × H × List Nat) :=
 al (aNew h.n T_api_Value [(.int .i64 0), (.int .i64 0), (.string ⟨#[]⟩)]) h fun v0 h1 =>
 ob (oBuild pg T_api_Value [(0, (.int .i64 2)), (2, x0)]) fun v2 =>
 hv (rStore h1 3 v0 v2) fun v3 h4 l5 =>
 fin h (rsK (rLdA h4.get 3 v0) (some [])) h4 (l5 ++ [])

-- 32 asterism/data.New
noncomputable def F_data_New (call : CallF) (lp : LoopF) (h : H) : Option (Value × H × List Nat) :=
 hv (call (.fn N_schema_New) [] h) fun v0 h1 l2 =>
 al (aMap h1.n) h1 fun v3 h4 =>
 ob (oBuild pg T_data_DB [(0, v0), (1, v3)]) fun v5 =>
 al (aBx h4.n T_data_DB 2 v5) h4 fun v6 h7 =>
 fin h (rsT v6 (some [])) h7 (l2 ++ [])

-- 33 (*asterism/data.DB).Table
noncomputable def F_data_DB_Table (call : CallF) (lp : LoopF) (x0 : Value) (x1 : Value) (h : H) : Option (Value × H × List Nat) :=
 ob (binV pg.ty (tyD (.pointer 0)) .eql x0 (.pointer none)) fun v0 =>
 jn3 (fun vs2 h3 l4 =>
 ob (rNil (nt vs2 0)) fun v5 =>
 ob (rFld 1 v5) fun v6 =>
 ob (rLd1 h3.get v6) fun v7 =>
 ob (oLk pg h3.get T_MstringPtable_Table v7 (nt vs2 1) false) fun v8 =>
 fin h (rsT v8 (some [])) h3 l4) fun j1 => fork v0
 (fin h (rsT (.pointer none) (some [])) h [])
 (j1 [x0, x1] h [])

-- 34 (*asterism/data.DB).Schema
noncomputable def F_data_DB_Schema (call : CallF) (lp : LoopF) (x0 : Value) (h : H) : Option (Value × H × List Nat) :=
 ob (binV pg.ty (tyD (.pointer 0)) .eql x0 (.pointer none)) fun v0 =>
 jn3 (fun vs2 h3 l4 =>
 ob (rNil (nt vs2 0)) fun v5 =>
 ob (rFld 0 v5) fun v6 =>
 ob (rLd1 h3.get v6) fun v7 =>
 fin h (rsT v7 (some [])) h3 l4) fun j1 => fork v0
 (fin h (rsT (.pointer none) (some [])) h [])
 (j1 [x0] h [])

-- 35 (*asterism/table.Table).Insert
noncomputable def F_table_Table_Insert_L250 (call : CallF) (lp : LoopF) : List Value → H → Option LOut := fun vs47 h48 =>
 ob (bI .lss (nt vs47 5) (nt vs47 4)) fun v49 =>
 jn3 (fun vs51 h52 l53 =>
 jn3 (fun vs55 h56 l57 =>
 ob (bI .add (nt vs55 5) (.int .i64 1)) fun v58 =>
 some ⟨.normal, [(nt vs55 0), (nt vs55 1), (nt vs55 2), (nt vs55 3), (nt vs55 4), v58], h56, l57⟩) fun j54 =>
 ob (rIdxS 3 (nt vs51 3) (nt vs51 5)) fun v59 =>
 ob (rLdA h52.get 3 v59) fun v60 =>
 al (aNew h52.n T_api_Value [(.int .i64 0), (.int .i64 0), (.string ⟨#[]⟩)]) h52 fun v61 h62 =>
 hv (rStore h62 3 v61 v60) fun v63 h64 l65 =>
 ob (rNil (nt vs51 0)) fun v66 =>
 ob (rFld 4 v66) fun v67 =>
 ob (rLd1 h64.get v67) fun v68 =>
 ob (rIdxS 1 v68 (nt vs51 5)) fun v69 =>
 ob (rLd1 h64.get v69) fun v70 =>
 ob (rLdA h64.get 3 v61) fun v71 =>
 hv (call (.fn N_column_Column_Append) [v70, v71] h64) fun v72 h73 l74 =>
 dr [0, 1, 3, 7, 0, 31, 63, 0, 255] [mP h64, mP h64, mP h64, mR h64 (rdP v67), mP h64, mP h64, mR h64 (rdP v69), mR h64 (rdP v61), mH h64 (rdL [v70, v71]) l74 h73] fun l75 =>
 j54 [(nt vs51 0), (nt vs51 1), (nt vs51 2), (nt vs51 3), (nt vs51 4), (nt vs51 5)] h73 (l75 ++ (l65 ++ l53))) fun j50 => fork v49
 (j50 [(nt vs47 0), (nt vs47 1), (nt vs47 2), (nt vs47 3), (nt vs47 4), (nt vs47 5)] h48 [])
 (some ⟨(.exit 3), [(nt vs47 0), (nt vs47 1), (nt vs47 2), (nt vs47 3), (nt vs47 4), (nt vs47 5)], h48, []⟩)
noncomputable def F_table_Table_Insert_L122 (call : CallF) (lp : LoopF) : List Value → H → Option LOut := fun vs78 h79 =>
 ob (bI .lss (nt vs78 6) (nt vs78 5)) fun v80 =>
 jn3 (fun vs82 h83 l84 =>
 jn3 (fun vs86 h87 l88 =>
 ob (bI .add (nt vs86 6) (.int .i64 1)) fun v89 =>
 some ⟨.normal, [(nt vs86 0), (nt vs86 1), (nt vs86 2), (nt vs86 3), (nt vs86 4), (nt vs86 5), v89], h87, l88⟩) fun j85 =>
 ob (rIdxS 3 (nt vs82 4) (nt vs82 6)) fun v90 =>
 ob (rLdA h83.get 3 v90) fun v91 =>
 al (aNew h83.n T_api_Value [(.int .i64 0), (.int .i64 0), (.string ⟨#[]⟩)]) h83 fun v92 h93 =>
 hv (rStore h93 3 v92 v91) fun v94 h95 l96 =>
 ob (rLdA h95.get 3 v92) fun v97 =>
 hv (call (.fn N_table_Table_may) [(nt vs82 0), (nt vs82 6), v97] h95) fun v98 h99 l100 =>
 ob (unV .not v98) fun v101 =>
 jn3 (fun vs103 h104 l105 =>
 j85 [(nt vs103 0), (nt vs103 1), (nt vs103 2), (nt vs103 3), (nt vs103 4), (nt vs103 5), (nt vs103 6)] h104 l105) fun j102 => fork v101
 (some ⟨.ret, [(nt vs82 0), (nt vs82 1), (.int .i64 0), (.int .i64 4), (nt vs82 4), (nt vs82 5), (nt vs82 6)], h99, (l100 ++ (l96 ++ l84))⟩)
 (j102 [(nt vs82 0), (nt vs82 1), (nt vs82 2), (nt vs82 3), (nt vs82 4), (nt vs82 5), (nt vs82 6)] h99 (l100 ++ (l96 ++ l84)))) fun j81 => fork v80
 (j81 [(nt vs78 0), (nt vs78 1), (nt vs78 2), (nt vs78 3), (nt vs78 4), (nt vs78 5), (nt vs78 6)] h79 [])
 (some ⟨(.exit 1), [(nt vs78 0), (nt vs78 1), (nt vs78 2), (nt vs78 3), (nt vs78 4), (nt vs78 5), (nt vs78 6)], h79, []⟩)
noncomputable def F_table_Table_Insert (call : CallF) (lp : LoopF) (x0 : Value) (x1 : Value) (h : H) : Option (Value × H × List Nat) :=
 jn3 (fun vs1 h2 l3 =>
 ob (rLenL (nt vs1 1)) fun v4 =>
 jn3 (fun vs6 h7 l8 =>
 ob (rLenL (nt vs6 1)) fun v9 =>
 jn3 (fun vs11 h12 l13 =>
 ob (rNil (nt vs11 0)) fun v14 =>
 ob (rFld 5 v14) fun v15 =>
 ob (rLdA h12.get 1 v15) fun v16 =>
 ob (rNil (nt vs11 0)) fun v17 =>
 ob (rFld 6 v17) fun v18 =>
 ob (rLd1 h12.get v18) fun v19 =>
 al (aBuildS pg h12.n T_Li64 1 [(0, v19)]) h12 fun v20 h21 =>
 hv (call (.fn N_bitmap_Of) [v20] h21) fun v22 h23 l24 =>
 hv (call (.fn N_bitmap_Or) [v16, v22] h23) fun v25 h26 l27 =>
 ob (rNil (nt vs11 0)) fun v28 =>
 ob (rFld 5 v28) fun v29 =>
 hv (rStore h26 1 v29 v25) fun v30 h31 l32 =>
 dr [0, 0, 2, 6, 14, 0, 32, 96, 224, 480, 992, 2046, 4095, 8191, 16383] [mP h12, mP h12, mP h12, mP h12, mR h12 (rdP v15), mP h12, mP h12, mP h12, mR h12 (rdP v18), mA h12 [], mH h21 (rdL [v20]) l24 h23, mH h23 (rdL [v16, v22]) l27 h26, mP h26, mP h26, mH h26 [] l32 h31] fun l33 =>
 ob (rNil (nt vs11 0)) fun v34 =>
 ob (rFld 6 v34) fun v35 =>
 ob (rLd1 h31.get v35) fun v36 =>
 ob (bI .add v36 (.int .i64 1)) fun v37 =>
 ob (rNil (nt vs11 0)) fun v38 =>
 ob (rFld 6 v38) fun v39 =>
 hv (rStore h31 1 v39 v37) fun v40 h41 l42 =>
 ob (rNil (nt vs11 0)) fun v43 =>
 ob (rFld 6 v43) fun v44 =>
 ob (rLd1 h41.get v44) fun v45 =>
 ob (bI .sub v45 (.int .i64 1)) fun v46 =>
 fin h (rsT v46 (rsT (.int .i64 0) (some []))) h41 (l42 ++ (l33 ++ l13))) fun j10 =>
 ob (lp (F_table_Table_Insert_L250 call lp) [(nt vs6 0), (nt vs6 2), (nt vs6 3), (nt vs6 1), v9, (.int .i64 0)] h7) fun o76 =>
 onEx o76.ex (j10 [(nt o76.vs 0)] o76.h (o76.lg ++ l8)) (fun i77 => bif Nat.beq i77 3 then j10 [(nt o76.vs 0)] o76.h (o76.lg ++ l8) else none) (fin h (rsT (nt o76.vs 1) (rsT (nt o76.vs 2) (some []))) o76.h (o76.lg ++ l8))) fun j5 =>
 ob (lp (F_table_Table_Insert_L122 call lp) [(nt vs1 0), (nt vs1 1), (nt vs1 2), (nt vs1 3), (nt vs1 1), v4, (.int .i64 0)] h2) fun o106 =>
 onEx o106.ex (j5 [(nt o106.vs 0), (nt o106.vs 1), (nt o106.vs 2), (nt o106.vs 3)] o106.h (o106.lg ++ l3)) (fun i107 => bif Nat.beq i107 1 then j5 [(nt o106.vs 0), (nt o106.vs 1), (nt o106.vs 2), (nt o106.vs 3)] o106.h (o106.lg ++ l3) else none) (fin h (rsT (nt o106.vs 2) (rsT (nt o106.vs 3) (some []))) o106.h (o106.lg ++ l3))) fun j0 =>
 ob (binV pg.ty (tyD (.pointer 0)) .eql x0 (.pointer none)) fun v108 =>
 jn3 (fun vs110 h111 l112 =>
 j0 [(nt vs110 0), (nt vs110 1), (nt vs110 2), (nt vs110 3)] h111 l112) fun j109 => fork v108
 (fin h (rsT (.int .i64 0) (rsT (.int .i64 6) (some []))) h [])
 (ob (rNil x0) fun v113 =>
 ob (rFld 6 v113) fun v114 =>
 ob (rLd1 h.get v114) fun v115 =>
 ob (bI .geq v115 (.int .i64 65536)) fun v116 =>
 jn3 (fun vs118 h119 l120 =>
 j109 [(nt vs118 0), (nt vs118 1), (nt vs118 2), (nt vs118 3)] h119 l120) fun j117 => fork v116
 (fin h (rsT (.int .i64 0) (rsT (.int .i64 5) (some []))) h [])
 (ob (rLenL x1) fun v121 =>
 ob (rNil x0) fun v122 =>
 ob (rFld 4 v122) fun v123 =>
 ob (rLd1 h.get v123) fun v124 =>
 ob (rLenL v124) fun v125 =>
 ob (bI .neq v121 v125) fun v126 =>
 jn3 (fun vs128 h129 l130 =>
 j117 [(nt vs128 0), (nt vs128 1), (nt vs128 2), (nt vs128 3)] h129 l130) fun j127 => fork v126
 (fin h (rsT (.int .i64 0) (rsT (.int .i64 1) (some []))) h [])
 (j127 [x0, x1, (.int .i64 0), (.int .i64 0)] h [])))

-- 36 asterism/asterismlaw11.Begun
noncomputable def F_asterismlaw11_Begun (call : CallF) (lp : LoopF) (h : H) : Option (Value × H × List Nat) :=
 hv (call (.fn N_asterismlaw11_begun) [] h) fun v0 h1 l2 =>
 fin h (rsT v0 (some [])) h1 (l2 ++ [])

-- 38 asterism/asterismlaw9.Star
noncomputable def F_asterismlaw9_Star (call : CallF) (lp : LoopF) (h : H) : Option (Value × H × List Nat) :=
 ob (oBuild pg T_api_Col [(0, (.string ⟨#[105, 100]⟩)), (1, (.int .i64 1))]) fun v0 =>
 ob (oBuild pg T_api_Col [(0, (.string ⟨#[110, 97, 109, 101]⟩)), (1, (.int .i64 2))]) fun v1 =>
 al (aBuildS pg h.n T_Lapi_Col 2 [(0, v0), (1, v1)]) h fun v2 h3 =>
 ob (oBuild pg T_api_Table [(0, (.string ⟨#[108, 97, 110, 100]⟩)), (1, v2), (2, (.string ⟨#[105, 100]⟩))]) fun v4 =>
 ob (oBuild pg T_api_Col [(0, (.string ⟨#[105, 100]⟩)), (1, (.int .i64 1))]) fun v5 =>
 ob (oBuild pg T_api_Col [(0, (.string ⟨#[99, 105, 116, 121]⟩)), (1, (.int .i64 2)), (2, (.bool true))]) fun v6 =>
 ob (oBuild pg T_api_Col [(0, (.string ⟨#[122, 111, 110, 101]⟩)), (1, (.int .i64 2))]) fun v7 =>
 ob (oBuild pg T_api_Col [(0, (.string ⟨#[108, 97, 110, 100]⟩)), (1, (.int .i64 1)), (3, (.string ⟨#[108, 97, 110, 100]⟩))]) fun v8 =>
 al (aBuildS pg h3.n T_Lapi_Col 4 [(0, v5), (1, v6), (2, v7), (3, v8)]) h3 fun v9 h10 =>
 al (aBuildS pg h10.n T_Lstring 1 [(0, (.string ⟨#[99, 105, 116, 121]⟩))]) h10 fun v11 h12 =>
 ob (oBuild pg T_api_Dep [(0, v11), (1, (.string ⟨#[122, 111, 110, 101]⟩))]) fun v13 =>
 al (aBuildS pg h12.n T_Lapi_Dep 1 [(0, v13)]) h12 fun v14 h15 =>
 ob (oBuild pg T_api_Table [(0, (.string ⟨#[115, 104, 111, 112]⟩)), (1, v9), (2, (.string ⟨#[105, 100]⟩)), (3, v14)]) fun v16 =>
 ob (oBuild pg T_api_Col [(0, (.string ⟨#[100]⟩)), (1, (.int .i64 2))]) fun v17 =>
 ob (oBuild pg T_api_Col [(0, (.string ⟨#[109, 111, 110, 116, 104]⟩)), (1, (.int .i64 1)), (2, (.bool true))]) fun v18 =>
 ob (oBuild pg T_api_Col [(0, (.string ⟨#[121, 101, 97, 114]⟩)), (1, (.int .i64 1))]) fun v19 =>
 al (aBuildS pg h15.n T_Lapi_Col 3 [(0, v17), (1, v18), (2, v19)]) h15 fun v20 h21 =>
 al (aBuildS pg h21.n T_Lstring 1 [(0, (.string ⟨#[109, 111, 110, 116, 104]⟩))]) h21 fun v22 h23 =>
 ob (oBuild pg T_api_Dep [(0, v22), (1, (.string ⟨#[121, 101, 97, 114]⟩))]) fun v24 =>
 al (aBuildS pg h23.n T_Lapi_Dep 1 [(0, v24)]) h23 fun v25 h26 =>
 ob (oBuild pg T_api_Table [(0, (.string ⟨#[100, 97, 121]⟩)), (1, v20), (2, (.string ⟨#[100]⟩)), (3, v25)]) fun v27 =>
 ob (oBuild pg T_api_Col [(0, (.string ⟨#[115, 104, 111, 112]⟩)), (1, (.int .i64 1)), (3, (.string ⟨#[115, 104, 111, 112]⟩))]) fun v28 =>
 ob (oBuild pg T_api_Col [(0, (.string ⟨#[100, 97, 121]⟩)), (1, (.int .i64 2)), (3, (.string ⟨#[100, 97, 121]⟩))]) fun v29 =>
 ob (oBuild pg T_api_Col [(0, (.string ⟨#[110]⟩)), (1, (.int .i64 1))]) fun v30 =>
 ob (oBuild pg T_api_Col [(0, (.string ⟨#[116, 97, 103]⟩)), (1, (.int .i64 2))]) fun v31 =>
 al (aBuildS pg h26.n T_Lapi_Col 4 [(0, v28), (1, v29), (2, v30), (3, v31)]) h26 fun v32 h33 =>
 ob (oBuild pg T_api_Table [(0, (.string ⟨#[115, 97, 108, 101]⟩)), (1, v32)]) fun v34 =>
 al (aBuildS pg h33.n T_Lapi_Table 4 [(0, v4), (1, v16), (2, v27), (3, v34)]) h33 fun v35 h36 =>
 fin h (rsT v35 (some [])) h36 []

-- 39 (*asterism/data.DB).Add
noncomputable def F_data_DB_Add (call : CallF) (lp : LoopF) (x0 : Value) (x1 : Value) (h : H) : Option (Value × H × List Nat) :=
 al (aBx h.n T_api_Table 4 x1) h fun v0 h1 =>
 ob (binV pg.ty (tyD (.pointer 0)) .eql x0 (.pointer none)) fun v2 =>
 jn3 (fun vs4 h5 l6 =>
 ob (rNil (nt vs4 0)) fun v7 =>
 ob (rFld 0 v7) fun v8 =>
 ob (rLd1 h5.get v8) fun v9 =>
 ob (rLdA h5.get 4 (nt vs4 1)) fun v10 =>
 hv (call (.fn N_schema_Schema_Add) [v9, v10] h5) fun v11 h12 l13 =>
 dr [0, 1, 3, 7, 0, 31, 63] [mP h5, mP h5, mP h5, mR h5 (rdP v8), mR h5 (rdP (nt vs4 1)), mH h5 (rdL [v9, v10]) l13 h12, mP h12] fun l14 =>
 ob (bI .neq v11 (.int .i64 0)) fun v15 =>
 jn3 (fun vs17 h18 l19 =>
 ob (rNil (nt vs17 0)) fun v20 =>
 ob (rFld 0 v20) fun v21 =>
 ob (rLd1 h18.get v21) fun v22 =>
 ob (rFld 0 (nt vs17 1)) fun v23 =>
 ob (rLd1 h18.get v23) fun v24 =>
 hv (call (.fn N_schema_Schema_Find) [v22, v24] h18) fun v25 h26 l27 =>
 ob (rExtract 0 v25) fun v28 =>
 ob (rExtract 1 v25) fun v29 =>
 al (aNew h26.n T_api_Table [(.string ⟨#[]⟩), (.slice none 0 0), (.string ⟨#[]⟩), (.slice none 0 0)]) h26 fun v30 h31 =>
 hv (rStore h31 4 v30 v28) fun v32 h33 l34 =>
 dr [0, 1, 3, 7, 0, 16, 63, 127, 255, 255, 0, 1535, 4095] [mP h18, mP h18, mP h18, mR h18 (rdP v21), mP h18, mR h18 (rdP v23), mH h18 (rdL [v22, v24]) l27 h26, mP h26, mP h26, mP h26, mA h26 [], mH h31 [] l34 h33, mP h33] fun l35 =>
 ob (rNil (nt vs17 0)) fun v36 =>
 ob (rFld 1 v36) fun v37 =>
 ob (rLd1 h33.get v37) fun v38 =>
 ob (rFld 0 (nt vs17 1)) fun v39 =>
 ob (rLd1 h33.get v39) fun v40 =>
 ob (rLdA h33.get 4 v30) fun v41 =>
 hv (call (.fn N_table_New) [v41] h33) fun v42 h43 l44 =>
 hv (rMapUpd h43 v38 v40 v42) fun v45 h46 l47 =>
 dr [0, 1, 3, 7, 0, 16, 0, 64, 255] [mP h33, mP h33, mP h33, mR h33 (rdP v37), mP h33, mR h33 (rdP v39), mR h33 (rdP v30), mH h33 (rdL [v41]) l44 h43, mH h43 [] l47 h46] fun l48 =>
 fin h (rsT (.int .i64 0) (some [])) h46 (l48 ++ (l35 ++ l19))) fun j16 => fork v15
 (fin h (rsT v11 (some [])) h12 (l14 ++ l6))
 (j16 [(nt vs4 0), (nt vs4 1)] h12 (l14 ++ l6))) fun j3 => fork v2
 (fin h (rsT (.int .i64 6) (some [])) h1 [])
 (j3 [x0, v0] h1 [])

-- 40 (*asterism/asterismref12.DB).Add
noncomputable def F_asterismref12_DB_Add (call : CallF) (lp : LoopF) (x0 : Value) (x1 : Value) (h : H) : Option (Value × H × List Nat) :=
 al (aBx h.n T_api_Table 4 x1) h fun v0 h1 =>
 ob (rNil x0) fun v2 =>
 ob (rFld 0 v2) fun v3 =>
 ob (rLd1 h1.get v3) fun v4 =>
 ob (rLdA h1.get 4 v0) fun v5 =>
 hv (call (.fn N_asterismref8_Schema_May) [v4, v5] h1) fun v6 h7 l8 =>
 dr [0, 1, 3, 7, 0, 31, 63] [mP h1, mP h1, mP h1, mR h1 (rdP v3), mR h1 (rdP v0), mH h1 (rdL [v4, v5]) l8 h7, mP h7] fun l9 =>
 ob (bI .neq v6 (.int .i64 0)) fun v10 =>
 jn3 (fun vs12 h13 l14 =>
 ob (rNil (nt vs12 0)) fun v15 =>
 ob (rFld 0 v15) fun v16 =>
 ob (rLd1 h13.get v16) fun v17 =>
 ob (rLdA h13.get 4 (nt vs12 1)) fun v18 =>
 hv (call (.fn N_asterismref8_Form) [v18] h13) fun v19 h20 l21 =>
 al (aBuildS pg h20.n T_asterismref8_Schema 1 [(0, v19)]) h20 fun v22 h23 =>
 hv (rApp h23 T_api_Table 4 80 [(.string ⟨#[]⟩), (.slice none 0 0), (.string ⟨#[]⟩), (.slice none 0 0)] v17 v22) fun v24 h25 l26 =>
 ob (rNil (nt vs12 0)) fun v27 =>
 ob (rFld 0 v27) fun v28 =>
 hv (rStore h25 1 v28 v24) fun v29 h30 l31 =>
 dr [0, 0, 2, 6, 14, 0, 32, 96, 254, 511, 1023, 2047] [mP h13, mP h13, mP h13, mP h13, mR h13 (rdP v16), mR h13 (rdP (nt vs12 1)), mH h13 (rdL [v18]) l21 h20, mA h20 [], mH h23 (rdL [v17, v22]) l26 h25, mP h25, mP h25, mH h25 [] l31 h30] fun l32 =>
 ob (rNil (nt vs12 0)) fun v33 =>
 ob (rFld 1 v33) fun v34 =>
 ob (rLd1 h30.get v34) fun v35 =>
 al (aBuildS pg h30.n T_LLasterismref12_Row 1 [(0, (.slice none 0 0))]) h30 fun v36 h37 =>
 hv (rApp h37 T_Lasterismref12_Row 1 24 [(.slice none 0 0)] v35 v36) fun v38 h39 l40 =>
 ob (rNil (nt vs12 0)) fun v41 =>
 ob (rFld 2 v41) fun v42 =>
 ob (rLd1 h39.get v42) fun v43 =>
 al (aBuildS pg h39.n T_Li64 1 [(0, (.int .i64 0))]) h39 fun v44 h45 =>
 hv (rApp h45 T_i64_b 1 8 [(.int .i64 0)] v43 v44) fun v46 h47 l48 =>
 ob (rNil (nt vs12 0)) fun v49 =>
 ob (rFld 1 v49) fun v50 =>
 hv (rStore h47 1 v50 v38) fun v51 h52 l53 =>
 ob (rNil (nt vs12 0)) fun v54 =>
 ob (rFld 2 v54) fun v55 =>
 hv (rStore h52 1 v55 v46) fun v56 h57 l58 =>
 dr [0, 0, 0, 4, 12, 28, 0, 124, 0, 256, 768, 1792, 0, 8188, 16381, 32765, 65533, 131071, 262143, 524287] [mP h30, mP h30, mP h30, mP h30, mP h30, mR h30 (rdP v34), mA h30 [], mH h37 (rdL [v35, v36]) l40 h39, mP h39, mP h39, mP h39, mR h39 (rdP v42), mA h39 [], mH h45 (rdL [v43, v44]) l48 h47, mP h47, mP h47, mH h47 [] l53 h52, mP h52, mP h52, mH h52 [] l58 h57] fun l59 =>
 fin h (rsT (.int .i64 0) (some [])) h57 (l59 ++ (l32 ++ l14))) fun j11 => fork v10
 (fin h (rsT v6 (some [])) h7 (l9 ++ []))
 (j11 [x0, v0] h7 (l9 ++ []))

-- 41 (asterism/asterismref8.Schema).Find
noncomputable def F_asterismref8_Schema_Find_L58 (call : CallF) (lp : LoopF) : List Value → H → Option LOut := fun vs4 h5 =>
 ob (rLenL (nt vs4 0)) fun v6 =>
 ob (bI .lss (nt vs4 3) v6) fun v7 =>
 jn3 (fun vs9 h10 l11 =>
 jn3 (fun vs13 h14 l15 =>
 ob (bI .add (nt vs13 3) (.int .i64 1)) fun v16 =>
 some ⟨.normal, [(nt vs13 0), (nt vs13 1), (nt vs13 2), v16], h14, l15⟩) fun j12 =>
 ob (rIdxS 4 (nt vs9 0) (nt vs9 3)) fun v17 =>
 ob (rFld 0 v17) fun v18 =>
 ob (rLd1 h10.get v18) fun v19 =>
 ob (binV pg.ty (tyD .string) .eql v19 (nt vs9 1)) fun v20 =>
 jn3 (fun vs22 h23 l24 =>
 j12 [(nt vs22 0), (nt vs22 1), (nt vs22 2), (nt vs22 3)] h23 l24) fun j21 => fork v20
 (some ⟨.ret, [(nt vs9 0), (nt vs9 1), (nt vs9 3), (nt vs9 3)], h10, l11⟩)
 (j21 [(nt vs9 0), (nt vs9 1), (nt vs9 2), (nt vs9 3)] h10 l11)) fun j8 => fork v7
 (j8 [(nt vs4 0), (nt vs4 1), (nt vs4 2), (nt vs4 3)] h5 [])
 (some ⟨(.exit 0), [(nt vs4 0), (nt vs4 1), (nt vs4 2), (nt vs4 3)], h5, []⟩)
noncomputable def F_asterismref8_Schema_Find (call : CallF) (lp : LoopF) (x0 : Value) (x1 : Value) (h : H) : Option (Value × H × List Nat) :=
 jn3 (fun vs1 h2 l3 =>
 fin h (rsT (.int .i64 (-1)) (some [])) h2 l3) fun j0 =>
 ob (lp (F_asterismref8_Schema_Find_L58 call lp) [x0, x1, (.int .i64 0), (.int .i64 0)] h) fun o25 =>
 onEx o25.ex (j0 [] o25.h (o25.lg ++ [])) (fun i26 => bif Nat.beq i26 0 then j0 [] o25.h (o25.lg ++ []) else none) (fin h (rsT (nt o25.vs 2) (some [])) o25.h (o25.lg ++ []))

-- 43 (*asterism/table.Table).Delete
noncomputable def F_table_Table_Delete_L250 (call : CallF) (lp : LoopF) : List Value → H → Option LOut := fun vs40 h41 =>
 ob (bI .lss (nt vs40 4) (nt vs40 3)) fun v42 =>
 jn3 (fun vs44 h45 l46 =>
 jn3 (fun vs48 h49 l50 =>
 ob (bI .add (nt vs48 4) (.int .i64 1)) fun v51 =>
 some ⟨.normal, [(nt vs48 0), (nt vs48 1), (nt vs48 2), (nt vs48 3), v51], h49, l50⟩) fun j47 =>
 ob (rIdxS 1 (nt vs44 2) (nt vs44 4)) fun v52 =>
 ob (rLd1 h45.get v52) fun v53 =>
 ob (oBuild pg T_api_Value []) fun v54 =>
 hv (call (.fn N_column_Column_Set) [v53, (nt vs44 0), v54] h45) fun v55 h56 l57 =>
 j47 [(nt vs44 0), (nt vs44 1), (nt vs44 2), (nt vs44 3), (nt vs44 4)] h56 (l57 ++ l46)) fun j43 => fork v42
 (j43 [(nt vs40 0), (nt vs40 1), (nt vs40 2), (nt vs40 3), (nt vs40 4)] h41 [])
 (some ⟨(.exit 0), [(nt vs40 0), (nt vs40 1), (nt vs40 2), (nt vs40 3), (nt vs40 4)], h41, []⟩)
noncomputable def F_table_Table_Delete (call : CallF) (lp : LoopF) (x0 : Value) (x1 : Value) (h : H) : Option (Value × H × List Nat) :=
 ob (binV pg.ty (tyD (.pointer 0)) .eql x0 (.pointer none)) fun v0 =>
 gP (gd v0 false) (some x0) fun v1 =>
 gP (gd v0 false) (rNil v1) fun v2 =>
 gP (gd v0 false) (rFld 5 v2) fun v3 =>
 gP (gd v0 false) (rLdA h.get 1 v3) fun v4 =>
 gP (gd v0 false) (some x1) fun v5 =>
 hv (gV (gd v0 false) (call (.fn N_bitmap_Map_Has) [v4, v5] h) h) fun v6 h7 l8 =>
 gP (gd v0 false) (unV .not v6) fun v9 =>
 ob (rPick v0 (.bool true) v9) fun v10 =>
 jn3 (fun vs12 h13 l14 =>
 ob (rNil (nt vs12 0)) fun v15 =>
 ob (rFld 5 v15) fun v16 =>
 ob (rLdA h13.get 1 v16) fun v17 =>
 al (aBuildS pg h13.n T_Li64 1 [(0, (nt vs12 1))]) h13 fun v18 h19 =>
 hv (call (.fn N_bitmap_Of) [v18] h19) fun v20 h21 l22 =>
 hv (call (.fn N_bitmap_Without) [v17, v20] h21) fun v23 h24 l25 =>
 ob (rNil (nt vs12 0)) fun v26 =>
 ob (rFld 5 v26) fun v27 =>
 hv (rStore h24 1 v27 v23) fun v28 h29 l30 =>
 dr [0, 0, 2, 6, 14, 0, 32, 96, 254, 511, 1023, 2047] [mP h13, mP h13, mP h13, mP h13, mR h13 (rdP v16), mP h13, mA h13 [], mH h19 (rdL [v18]) l22 h21, mH h21 (rdL [v17, v20]) l25 h24, mP h24, mP h24, mH h24 [] l30 h29] fun l31 =>
 ob (rNil (nt vs12 0)) fun v32 =>
 ob (rFld 4 v32) fun v33 =>
 ob (rLd1 h29.get v33) fun v34 =>
 ob (rLenL v34) fun v35 =>
 jn3 (fun vs37 h38 l39 =>
 fin h (rsT (.bool true) (some [])) h38 l39) fun j36 =>
 ob (lp (F_table_Table_Delete_L250 call lp) [(nt vs12 1), (nt vs12 2), v34, v35, (.int .i64 0)] h29) fun o58 =>
 onEx o58.ex (j36 [] o58.h (o58.lg ++ (l31 ++ l14))) (fun i59 => bif Nat.beq i59 0 then j36 [] o58.h (o58.lg ++ (l31 ++ l14)) else none) (fin h (rsT (nt o58.vs 1) (some [])) o58.h (o58.lg ++ (l31 ++ l14)))) fun j11 => fork v10
 (fin h (rsT (.bool false) (some [])) h7 (l8 ++ []))
 (j11 [x0, x1, (.bool false)] h7 (l8 ++ []))

-- 45 (*asterism/table.Table).Set
noncomputable def F_table_Table_Set (call : CallF) (lp : LoopF) (x0 : Value) (x1 : Value) (x2 : Value) (x3 : Value) (h : H) : Option (Value × H × List Nat) :=
 al (aBx h.n T_api_Value 3 x3) h fun v0 h1 =>
 hv (call (.fn N_table_Table_col) [x0, x2] h1) fun v2 h3 l4 =>
 jn3 (fun vs6 h7 l8 =>
 ob (rNil (nt vs6 0)) fun v9 =>
 ob (rFld 4 v9) fun v10 =>
 ob (rLd1 h7.get v10) fun v11 =>
 ob (rIdxS 1 v11 (nt vs6 3)) fun v12 =>
 ob (rLd1 h7.get v12) fun v13 =>
 ob (rLdA h7.get 3 (nt vs6 2)) fun v14 =>
 hv (call (.fn N_column_Column_Set) [v13, (nt vs6 1), v14] h7) fun v15 h16 l17 =>
 dr [0, 1, 3, 7, 0, 31, 63, 0, 0, 511] [mP h7, mP h7, mP h7, mR h7 (rdP v10), mP h7, mP h7, mR h7 (rdP v12), mP h7, mR h7 (rdP (nt vs6 2)), mH h7 (rdL [v13, (nt vs6 1), v14]) l17 h16] fun l18 =>
 fin h (rsT (.int .i64 0) (some [])) h16 (l18 ++ l8)) fun j5 =>
 ob (binV pg.ty (tyD (.pointer 0)) .eql x0 (.pointer none)) fun v19 =>
 gP (gd v19 false) (some x0) fun v20 =>
 gP (gd v19 false) (rNil v20) fun v21 =>
 gP (gd v19 false) (rFld 5 v21) fun v22 =>
 gP (gd v19 false) (rLdA h3.get 1 v22) fun v23 =>
 gP (gd v19 false) (some x1) fun v24 =>
 hv (gV (gd v19 false) (call (.fn N_bitmap_Map_Has) [v23, v24] h3) h3) fun v25 h26 l27 =>
 gP (gd v19 false) (unV .not v25) fun v28 =>
 ob (rPick v19 (.bool true) v28) fun v29 =>
 jn3 (fun vs31 h32 l33 =>
 j5 [(nt vs31 0), (nt vs31 1), (nt vs31 2), (nt vs31 3)] h32 l33) fun j30 => fork v29
 (fin h (rsT (.int .i64 6) (some [])) h26 (l27 ++ (l4 ++ [])))
 (ob (bI .lss v2 (.int .i64 0)) fun v34 =>
 jn3 (fun vs36 h37 l38 =>
 j30 [(nt vs36 0), (nt vs36 1), (nt vs36 2), (nt vs36 3)] h37 l38) fun j35 => fork v34
 (fin h (rsT (.int .i64 3) (some [])) h26 (l27 ++ (l4 ++ [])))
 (ob (rLdA h26.get 3 v0) fun v39 =>
 hv (call (.fn N_table_Table_may) [x0, v2, v39] h26) fun v40 h41 l42 =>
 ob (unV .not v40) fun v43 =>
 jn3 (fun vs45 h46 l47 =>
 j35 [(nt vs45 0), (nt vs45 1), (nt vs45 2), (nt vs45 3)] h46 l47) fun j44 => fork v43
 (fin h (rsT (.int .i64 4) (some [])) h41 (l42 ++ (l27 ++ (l4 ++ []))))
 (j44 [x0, x1, v0, v2] h41 (l42 ++ (l27 ++ (l4 ++ []))))))

-- 48 (*asterism/schema.Schema).Names
noncomputable def F_schema_Schema_Names_L250 (call : CallF) (lp : LoopF) : List Value → H → Option LOut := fun vs13 h14 =>
 ob (bI .lss (nt vs13 4) (nt vs13 3)) fun v15 =>
 jn3 (fun vs17 h18 l19 =>
 jn3 (fun vs21 h22 l23 =>
 ob (bI .add (nt vs21 4) (.int .i64 1)) fun v24 =>
 some ⟨.normal, [(nt vs21 0), (nt vs21 1), (nt vs21 2), (nt vs21 3), v24], h22, l23⟩) fun j20 =>
 ob (rIdxS 4 (nt vs17 2) (nt vs17 4)) fun v25 =>
 ob (rLdA h18.get 4 v25) fun v26 =>
 al (aNew h18.n T_api_Table [(.string ⟨#[]⟩), (.slice none 0 0), (.string ⟨#[]⟩), (.slice none 0 0)]) h18 fun v27 h28 =>
 hv (rStore h28 4 v27 v26) fun v29 h30 l31 =>
 ob (rFld 0 v27) fun v32 =>
 ob (rLd1 h30.get v32) fun v33 =>
 al (aBuildS pg h30.n T_Lstring 1 [(0, v33)]) h30 fun v34 h35 =>
 hv (rApp h35 T_string 1 16 [(.string ⟨#[]⟩)] (nt vs17 1) v34) fun v36 h37 l38 =>
 j20 [(nt vs17 0), v36, (nt vs17 2), (nt vs17 3), (nt vs17 4)] h37 (l38 ++ (l31 ++ l19))) fun j16 => fork v15
 (j16 [(nt vs13 0), (nt vs13 1), (nt vs13 2), (nt vs13 3), (nt vs13 4)] h14 [])
 (some ⟨(.exit 0), [(nt vs13 0), (nt vs13 1), (nt vs13 2), (nt vs13 3), (nt vs13 4)], h14, []⟩)
noncomputable def F_schema_Schema_Names (call : CallF) (lp : LoopF) (x0 : Value) (h : H) : Option (Value × H × List Nat) :=
 ob (binV pg.ty (tyD (.pointer 0)) .eql x0 (.pointer none)) fun v0 =>
 jn3 (fun vs2 h3 l4 =>
 ob (rNil (nt vs2 0)) fun v5 =>
 ob (rFld 0 v5) fun v6 =>
 ob (rLd1 h3.get v6) fun v7 =>
 ob (rLenL v7) fun v8 =>
 jn3 (fun vs10 h11 l12 =>
 fin h (rsT (nt vs10 0) (some [])) h11 l12) fun j9 =>
 ob (lp (F_schema_Schema_Names_L250 call lp) [(nt vs2 1), (.slice none 0 0), v7, v8, (.int .i64 0)] h3) fun o39 =>
 onEx o39.ex (j9 [(nt o39.vs 1)] o39.h (o39.lg ++ l4)) (fun i40 => bif Nat.beq i40 0 then j9 [(nt o39.vs 1)] o39.h (o39.lg ++ l4) else none) (fin h (rsT (nt o39.vs 0) (some [])) o39.h (o39.lg ++ l4))) fun j1 => fork v0
 (fin h (rsT (.slice none 0 0) (some [])) h [])
 (j1 [x0, (.slice none 0 0)] h [])

-- 49 (*asterism/schema.Schema).Find
noncomputable def F_schema_Schema_Find (call : CallF) (lp : LoopF) (x0 : Value) (x1 : Value) (h : H) : Option (Value × H × List Nat) :=
 al (aBx h.n T_string 1 x1) h fun v0 h1 =>
 al (aNew h1.n T_api_Table [(.string ⟨#[]⟩), (.slice none 0 0), (.string ⟨#[]⟩), (.slice none 0 0)]) h1 fun v2 h3 =>
 ob (binV pg.ty (tyD (.pointer 0)) .eql x0 (.pointer none)) fun v4 =>
 jn3 (fun vs6 h7 l8 =>
 ob (rNil (nt vs6 0)) fun v9 =>
 ob (rFld 0 v9) fun v10 =>
 ob (rLd1 h7.get v10) fun v11 =>
 ob (oFunc N_schema_Schema_Find_1 #[] #[(nt vs6 1)]) fun v12 =>
 hv (call (.fn N_slices_IndexFunc_api_Table_api_Table) [v11, v12] h7) fun v13 h14 l15 =>
 ob (bI .lss v13 (.int .i64 0)) fun v16 =>
 jn3 (fun vs18 h19 l20 =>
 ob (rNil (nt vs18 0)) fun v21 =>
 ob (rFld 0 v21) fun v22 =>
 ob (rLd1 h19.get v22) fun v23 =>
 ob (rIdxS 4 v23 (nt vs18 2)) fun v24 =>
 ob (rLdA h19.get 4 v24) fun v25 =>
 hv (call (.fn N_schema_copied) [v25] h19) fun v26 h27 l28 =>
 hv (rStore h27 4 (nt vs18 1) v26) fun v29 h30 l31 =>
 fin h (rsK (rLdA h30.get 4 (nt vs18 1)) (rsT (.bool true) (some []))) h30 (l31 ++ (l28 ++ l20))) fun j17 => fork v16
 (ob (oBuild pg T_api_Table []) fun v32 =>
 hv (rStore h14 4 (nt vs6 2) v32) fun v33 h34 l35 =>
 fin h (rsK (rLdA h34.get 4 (nt vs6 2)) (rsT (.bool false) (some []))) h34 (l35 ++ (l15 ++ l8)))
 (j17 [(nt vs6 0), (nt vs6 2), v13] h14 (l15 ++ l8))) fun j5 => fork v4
 (ob (oBuild pg T_api_Table []) fun v36 =>
 hv (rStore h3 4 v2 v36) fun v37 h38 l39 =>
 fin h (rsK (rLdA h38.get 4 v2) (rsT (.bool false) (some []))) h38 (l39 ++ []))
 (j5 [x0, v0, v2] h3 [])

-- 50 (*asterism/schema.Schema).Add
noncomputable def F_schema_Schema_Add (call : CallF) (lp : LoopF) (x0 : Value) (x1 : Value) (h : H) : Option (Value × H × List Nat) :=
 al (aBx h.n T_api_Table 4 x1) h fun v0 h1 =>
 jn3 (fun vs3 h4 l5 =>
 ob (rLdA h4.get 4 (nt vs3 1)) fun v6 =>
 hv (call (.fn N_schema_Schema_refs) [(nt vs3 0), v6] h4) fun v7 h8 l9 =>
 ob (bI .neq v7 (.int .i64 0)) fun v10 =>
 jn3 (fun vs12 h13 l14 =>
 ob (rLdA h13.get 4 (nt vs12 1)) fun v15 =>
 hv (call (.fn N_schema_copied) [v15] h13) fun v16 h17 l18 =>
 hv (rStore h17 4 (nt vs12 1) v16) fun v19 h20 l21 =>
 ob (rLdA h20.get 4 (nt vs12 1)) fun v22 =>
 ob (rFld 2 (nt vs12 1)) fun v23 =>
 ob (rLd1 h20.get v23) fun v24 =>
 hv (call (.fn N_schema_col) [v22, v24] h20) fun v25 h26 l27 =>
 ob (bI .geq v25 (.int .i64 0)) fun v28 =>
 jn3 (fun vs30 h31 l32 =>
 ob (rNil (nt vs30 0)) fun v33 =>
 ob (rFld 0 v33) fun v34 =>
 ob (rLd1 h31.get v34) fun v35 =>
 ob (rLdA h31.get 4 (nt vs30 1)) fun v36 =>
 al (aBuildS pg h31.n T_Lapi_Table 1 [(0, v36)]) h31 fun v37 h38 =>
 hv (rApp h38 T_api_Table 4 80 [(.string ⟨#[]⟩), (.slice none 0 0), (.string ⟨#[]⟩), (.slice none 0 0)] v35 v37) fun v39 h40 l41 =>
 ob (rNil (nt vs30 0)) fun v42 =>
 ob (rFld 0 v42) fun v43 =>
 hv (rStore h40 1 v43 v39) fun v44 h45 l46 =>
 dr [0, 0, 2, 6, 14, 0, 32, 126, 255, 511, 1023] [mP h31, mP h31, mP h31, mP h31, mR h31 (rdP v34), mR h31 (rdP (nt vs30 1)), mA h31 [], mH h38 (rdL [v35, v37]) l41 h40, mP h40, mP h40, mH h40 [] l46 h45] fun l47 =>
 fin h (rsT (.int .i64 0) (some [])) h45 (l47 ++ l32)) fun j29 => fork v28
 (ob (rFld 1 (nt vs12 1)) fun v48 =>
 ob (rLd1 h26.get v48) fun v49 =>
 ob (rIdxS 4 v49 v25) fun v50 =>
 ob (rFld 2 v50) fun v51 =>
 hv (rStore h26 1 v51 (.bool true)) fun v52 h53 l54 =>
 j29 [(nt vs12 0), (nt vs12 1)] h53 (l54 ++ (l27 ++ (l21 ++ (l18 ++ l14)))))
 (j29 [(nt vs12 0), (nt vs12 1)] h26 (l27 ++ (l21 ++ (l18 ++ l14))))) fun j11 => fork v10
 (fin h (rsT v7 (some [])) h8 (l9 ++ l5))
 (j11 [(nt vs3 0), (nt vs3 1)] h8 (l9 ++ l5))) fun j2 =>
 ob (binV pg.ty (tyD (.pointer 0)) .eql x0 (.pointer none)) fun v55 =>
 jn3 (fun vs57 h58 l59 =>
 j2 [(nt vs57 0), (nt vs57 1)] h58 l59) fun j56 => fork v55
 (fin h (rsT (.int .i64 6) (some [])) h1 [])
 (ob (rNil x0) fun v60 =>
 ob (rFld 0 v60) fun v61 =>
 ob (rLd1 h1.get v61) fun v62 =>
 ob (rLenL v62) fun v63 =>
 ob (bI .geq v63 (.int .i64 8)) fun v64 =>
 gP (gd v64 false) (rFld 1 v0) fun v65 =>
 gP (gd v64 false) (rLd1 h1.get v65) fun v66 =>
 gP (gd v64 false) (rLenL v66) fun v67 =>
 gP (gd v64 false) (bI .eql v67 (.int .i64 0)) fun v68 =>
 ob (rPick v64 (.bool true) v68) fun v69 =>
 gP (gd v69 false) (rFld 1 v0) fun v70 =>
 gP (gd v69 false) (rLd1 h1.get v70) fun v71 =>
 gP (gd v69 false) (rLenL v71) fun v72 =>
 gP (gd v69 false) (bI .gtr v72 (.int .i64 6)) fun v73 =>
 ob (rPick v69 (.bool true) v73) fun v74 =>
 gP (gd v74 false) (rFld 3 v0) fun v75 =>
 gP (gd v74 false) (rLd1 h1.get v75) fun v76 =>
 gP (gd v74 false) (rLenL v76) fun v77 =>
 gP (gd v74 false) (bI .gtr v77 (.int .i64 3)) fun v78 =>
 ob (rPick v74 (.bool true) v78) fun v79 =>
 jn3 (fun vs81 h82 l83 =>
 j56 [(nt vs81 0), (nt vs81 1)] h82 l83) fun j80 => fork v79
 (fin h (rsT (.int .i64 5) (some [])) h1 [])
 (ob (rLdA h1.get 4 v0) fun v84 =>
 hv (call (.fn N_schema_Schema_named) [x0, v84] h1) fun v85 h86 l87 =>
 ob (unV .not v85) fun v88 =>
 jn3 (fun vs90 h91 l92 =>
 j80 [(nt vs90 0), (nt vs90 1)] h91 l92) fun j89 => fork v88
 (fin h (rsT (.int .i64 3) (some [])) h86 (l87 ++ []))
 (ob (rFld 1 v0) fun v93 =>
 ob (rLd1 h86.get v93) fun v94 =>
 hv (call (.fn N_slices_ContainsFunc_api_Col_api_Col) [v94, (.func (.func N_schema_Schema_Add_1) #[] #[])] h86) fun v95 h96 l97 =>
 jn3 (fun vs99 h100 l101 =>
 j89 [(nt vs99 0), (nt vs99 1)] h100 l101) fun j98 => fork v95
 (fin h (rsT (.int .i64 4) (some [])) h96 (l97 ++ (l87 ++ [])))
 (j98 [x0, v0] h96 (l97 ++ (l87 ++ []))))))

-- 51 (*asterism/table.Table).Copy
noncomputable def F_table_Table_Copy_L64102 (call : CallF) (lp : LoopF) : List Value → H → Option LOut := fun vs57 h58 =>
 ob (bI .lss (nt vs57 9) (nt vs57 8)) fun v59 =>
 jn3 (fun vs61 h62 l63 =>
 jn3 (fun vs65 h66 l67 =>
 ob (bI .add (nt vs65 9) (.int .i64 1)) fun v68 =>
 some ⟨.normal, [(nt vs65 0), (nt vs65 1), (nt vs65 2), (nt vs65 3), (nt vs65 4), (nt vs65 5), (nt vs65 6), (nt vs65 7), (nt vs65 8), v68], h66, l67⟩) fun j64 =>
 hv (call (.fn N_column_Column_At) [(nt vs61 4), (nt vs61 9)] h62) fun v69 h70 l71 =>
 ob (rExtract 0 v69) fun v72 =>
 ob (rExtract 1 v69) fun v73 =>
 al (aNew h70.n T_api_Value [(.int .i64 0), (.int .i64 0), (.string ⟨#[]⟩)]) h70 fun v74 h75 =>
 hv (rStore h75 3 v74 v72) fun v76 h77 l78 =>
 ob (rNil (nt vs61 2)) fun v79 =>
 ob (rFld 4 v79) fun v80 =>
 ob (rLd1 h77.get v80) fun v81 =>
 ob (rIdxS 1 v81 (nt vs61 3)) fun v82 =>
 ob (rLd1 h77.get v82) fun v83 =>
 ob (rLdA h77.get 3 v74) fun v84 =>
 hv (call (.fn N_column_Column_Append) [v83, v84] h77) fun v85 h86 l87 =>
 dr [0, 1, 3, 7, 0, 31, 63, 0, 255] [mP h77, mP h77, mP h77, mR h77 (rdP v80), mP h77, mP h77, mR h77 (rdP v82), mR h77 (rdP v74), mH h77 (rdL [v83, v84]) l87 h86] fun l88 =>
 j64 [(nt vs61 0), (nt vs61 1), (nt vs61 2), (nt vs61 3), (nt vs61 4), (nt vs61 5), (nt vs61 6), (nt vs61 7), (nt vs61 8), (nt vs61 9)] h86 (l88 ++ (l78 ++ (l71 ++ l63)))) fun j60 => fork v59
 (j60 [(nt vs57 0), (nt vs57 1), (nt vs57 2), (nt vs57 3), (nt vs57 4), (nt vs57 5), (nt vs57 6), (nt vs57 7), (nt vs57 8), (nt vs57 9)] h58 [])
 (some ⟨(.exit 2), [(nt vs57 0), (nt vs57 1), (nt vs57 2), (nt vs57 3), (nt vs57 4), (nt vs57 5), (nt vs57 6), (nt vs57 7), (nt vs57 8), (nt vs57 9)], h58, []⟩)
noncomputable def F_table_Table_Copy_L250 (call : CallF) (lp : LoopF) : List Value → H → Option LOut := fun vs36 h37 =>
 ob (bI .lss (nt vs36 5) (nt vs36 4)) fun v38 =>
 jn3 (fun vs40 h41 l42 =>
 jn3 (fun vs44 h45 l46 =>
 ob (bI .add (nt vs44 5) (.int .i64 1)) fun v47 =>
 some ⟨.normal, [(nt vs44 0), (nt vs44 1), (nt vs44 2), (nt vs44 3), (nt vs44 4), v47], h45, l46⟩) fun j43 =>
 ob (rIdxS 1 (nt vs40 3) (nt vs40 5)) fun v48 =>
 ob (rLd1 h41.get v48) fun v49 =>
 hv (call (.fn N_column_Column_Len) [v49] h41) fun v50 h51 l52 =>
 jn3 (fun vs54 h55 l56 =>
 j43 [(nt vs54 0), (nt vs54 1), (nt vs54 2), (nt vs54 3), (nt vs54 4), (nt vs54 5)] h55 l56) fun j53 =>
 ob (lp (F_table_Table_Copy_L64102 call lp) [(nt vs40 0), (nt vs40 1), (nt vs40 2), (nt vs40 5), v49, (nt vs40 3), (nt vs40 4), (nt vs40 5), v50, (.int .i64 0)] h51) fun o89 =>
 onEx o89.ex (j53 [(nt o89.vs 0), (nt o89.vs 1), (nt o89.vs 2), (nt o89.vs 5), (nt o89.vs 6), (nt o89.vs 7)] o89.h (o89.lg ++ (l52 ++ l42))) (fun i90 => bif Nat.beq i90 2 then j53 [(nt o89.vs 0), (nt o89.vs 1), (nt o89.vs 2), (nt o89.vs 5), (nt o89.vs 6), (nt o89.vs 7)] o89.h (o89.lg ++ (l52 ++ l42)) else bif Nat.beq i90 1 then j43 [(nt o89.vs 0), (nt o89.vs 1), (nt o89.vs 2), (nt o89.vs 5), (nt o89.vs 6), (nt o89.vs 7)] o89.h (o89.lg ++ (l52 ++ l42)) else some ⟨(.exit i90), [(nt o89.vs 0), (nt o89.vs 1), (nt o89.vs 2), (nt o89.vs 5), (nt o89.vs 6), (nt o89.vs 7)], o89.h, (o89.lg ++ (l52 ++ l42))⟩) (some ⟨.ret, [(nt o89.vs 0), (nt o89.vs 1), (nt o89.vs 2), (nt o89.vs 5), (nt o89.vs 6), (nt o89.vs 7)], o89.h, (o89.lg ++ (l52 ++ l42))⟩)) fun j39 => fork v38
 (j39 [(nt vs36 0), (nt vs36 1), (nt vs36 2), (nt vs36 3), (nt vs36 4), (nt vs36 5)] h37 [])
 (some ⟨(.exit 0), [(nt vs36 0), (nt vs36 1), (nt vs36 2), (nt vs36 3), (nt vs36 4), (nt vs36 5)], h37, []⟩)
noncomputable def F_table_Table_Copy (call : CallF) (lp : LoopF) (x0 : Value) (h : H) : Option (Value × H × List Nat) :=
 ob (binV pg.ty (tyD (.pointer 0)) .eql x0 (.pointer none)) fun v0 =>
 jn3 (fun vs2 h3 l4 =>
 hv (call (.fn N_table_Table_Form) [(nt vs2 0)] h3) fun v5 h6 l7 =>
 hv (call (.fn N_table_New) [v5] h6) fun v8 h9 l10 =>
 ob (rNil (nt vs2 0)) fun v11 =>
 ob (rFld 4 v11) fun v12 =>
 ob (rLd1 h9.get v12) fun v13 =>
 ob (rLenL v13) fun v14 =>
 jn3 (fun vs16 h17 l18 =>
 ob (rNil (nt vs16 0)) fun v19 =>
 ob (rFld 5 v19) fun v20 =>
 ob (rLdA h17.get 1 v20) fun v21 =>
 ob (rNil (nt vs16 0)) fun v22 =>
 ob (rFld 6 v22) fun v23 =>
 ob (rLd1 h17.get v23) fun v24 =>
 ob (rNil (nt vs16 1)) fun v25 =>
 ob (rFld 5 v25) fun v26 =>
 hv (rStore h17 1 v26 v21) fun v27 h28 l29 =>
 ob (rNil (nt vs16 1)) fun v30 =>
 ob (rFld 6 v30) fun v31 =>
 hv (rStore h28 1 v31 v24) fun v32 h33 l34 =>
 dr [0, 0, 0, 4, 12, 28, 0, 64, 192, 448, 1021, 2045, 4093, 8191, 16383, 32767] [mP h17, mP h17, mP h17, mP h17, mP h17, mR h17 (rdP v20), mP h17, mP h17, mP h17, mR h17 (rdP v23), mP h17, mP h17, mH h17 [] l29 h28, mP h28, mP h28, mH h28 [] l34 h33] fun l35 =>
 fin h (rsT (nt vs16 1) (some [])) h33 (l35 ++ l18)) fun j15 =>
 ob (lp (F_table_Table_Copy_L250 call lp) [(nt vs2 0), (nt vs2 1), v8, v13, v14, (.int .i64 0)] h9) fun o91 =>
 onEx o91.ex (j15 [(nt o91.vs 0), (nt o91.vs 2)] o91.h (o91.lg ++ (l10 ++ (l7 ++ l4)))) (fun i92 => bif Nat.beq i92 0 then j15 [(nt o91.vs 0), (nt o91.vs 2)] o91.h (o91.lg ++ (l10 ++ (l7 ++ l4))) else none) (fin h (rsT (nt o91.vs 1) (some [])) o91.h (o91.lg ++ (l10 ++ (l7 ++ l4))))) fun j1 => fork v0
 (fin h (rsT (.pointer none) (some [])) h [])
 (j1 [x0, (.pointer none)] h [])

-- 52 (*asterism/table.Table).Form
noncomputable def F_table_Table_Form_L1018 (call : CallF) (lp : LoopF) : List Value → H → Option LOut := fun vs44 h45 =>
 ob (bI .lss (nt vs44 3) (nt vs44 2)) fun v46 =>
 jn3 (fun vs48 h49 l50 =>
 jn3 (fun vs52 h53 l54 =>
 ob (bI .add (nt vs52 3) (.int .i64 1)) fun v55 =>
 some ⟨.normal, [(nt vs52 0), (nt vs52 1), (nt vs52 2), v55], h53, l54⟩) fun j51 =>
 ob (rFld 3 (nt vs48 1)) fun v56 =>
 ob (rLd1 h49.get v56) fun v57 =>
 ob (rFld 3 (nt vs48 1)) fun v58 =>
 ob (rLd1 h49.get v58) fun v59 =>
 ob (rIdxS 2 v59 (nt vs48 3)) fun v60 =>
 ob (rFld 0 v60) fun v61 =>
 ob (rLd1 h49.get v61) fun v62 =>
 hv (call (.fn N_slices_Clone_string_string) [v62] h49) fun v63 h64 l65 =>
 ob (rIdxS 2 v57 (nt vs48 3)) fun v66 =>
 ob (rFld 0 v66) fun v67 =>
 hv (rStore h64 1 v67 v63) fun v68 h69 l70 =>
 dr [0, 1, 0, 0, 8, 0, 56, 120, 248, 504, 1023, 2047, 4095] [mP h49, mR h49 (rdP v56), mP h49, mP h49, mR h49 (rdP v58), mP h49, mP h49, mP h49, mR h49 (rdP v61), mH h49 (rdL [v62]) l65 h64, mP h64, mP h64, mH h64 [] l70 h69] fun l71 =>
 j51 [(nt vs48 0), (nt vs48 1), (nt vs48 2), (nt vs48 3)] h69 (l71 ++ l50)) fun j47 => fork v46
 (j47 [(nt vs44 0), (nt vs44 1), (nt vs44 2), (nt vs44 3)] h45 [])
 (some ⟨(.exit 0), [(nt vs44 0), (nt vs44 1), (nt vs44 2), (nt vs44 3)], h45, []⟩)
noncomputable def F_table_Table_Form (call : CallF) (lp : LoopF) (x0 : Value) (h : H) : Option (Value × H × List Nat) :=
 al (aNew h.n T_api_Table [(.string ⟨#[]⟩), (.slice none 0 0), (.string ⟨#[]⟩), (.slice none 0 0)]) h fun v0 h1 =>
 ob (binV pg.ty (tyD (.pointer 0)) .eql x0 (.pointer none)) fun v2 =>
 jn3 (fun vs4 h5 l6 =>
 ob (rNil (nt vs4 0)) fun v7 =>
 ob (rFld 0 v7) fun v8 =>
 ob (rLdA h5.get 4 v8) fun v9 =>
 al (aNew h5.n T_api_Table [(.string ⟨#[]⟩), (.slice none 0 0), (.string ⟨#[]⟩), (.slice none 0 0)]) h5 fun v10 h11 =>
 hv (rStore h11 4 v10 v9) fun v12 h13 l14 =>
 ob (rFld 1 v10) fun v15 =>
 ob (rLd1 h13.get v15) fun v16 =>
 hv (call (.fn N_slices_Clone_api_Col_api_Col) [v16] h13) fun v17 h18 l19 =>
 ob (rFld 1 v10) fun v20 =>
 hv (rStore h18 1 v20 v17) fun v21 h22 l23 =>
 ob (rFld 3 v10) fun v24 =>
 ob (rLd1 h22.get v24) fun v25 =>
 hv (call (.fn N_slices_Clone_api_Dep_api_Dep) [v25] h22) fun v26 h27 l28 =>
 ob (rFld 3 v10) fun v29 =>
 hv (rStore h27 1 v29 v26) fun v30 h31 l32 =>
 ob (rFld 3 v10) fun v33 =>
 ob (rLd1 h31.get v33) fun v34 =>
 ob (rLenL v34) fun v35 =>
 jn3 (fun vs37 h38 l39 =>
 ob (rLdA h38.get 4 (nt vs37 1)) fun v40 =>
 hv (rStore h38 4 (nt vs37 0) v40) fun v41 h42 l43 =>
 fin h (rsK (rLdA h42.get 4 (nt vs37 0)) (some [])) h42 (l43 ++ l39)) fun j36 =>
 ob (lp (F_table_Table_Form_L1018 call lp) [(nt vs4 1), v10, v35, (.int .i64 0)] h31) fun o72 =>
 onEx o72.ex (j36 [(nt o72.vs 0), (nt o72.vs 1)] o72.h (o72.lg ++ (l32 ++ (l28 ++ (l23 ++ (l19 ++ (l14 ++ l6))))))) (fun i73 => bif Nat.beq i73 0 then j36 [(nt o72.vs 0), (nt o72.vs 1)] o72.h (o72.lg ++ (l32 ++ (l28 ++ (l23 ++ (l19 ++ (l14 ++ l6)))))) else none) (fin h (rsK (rLdA o72.h.get 4 (nt o72.vs 0)) (some [])) o72.h (o72.lg ++ (l32 ++ (l28 ++ (l23 ++ (l19 ++ (l14 ++ l6)))))))) fun j3 => fork v2
 (ob (oBuild pg T_api_Table []) fun v74 =>
 hv (rStore h1 4 v0 v74) fun v75 h76 l77 =>
 fin h (rsK (rLdA h76.get 4 v0) (some [])) h76 (l77 ++ []))
 (j3 [x0, v0] h1 [])

-- 53 (*asterism/table.Table).Live
noncomputable def F_table_Table_Live (call : CallF) (lp : LoopF) (x0 : Value) (h : H) : Option (Value × H × List Nat) :=
 al (aNew h.n T_bitmap_Map [(.slice none 0 0)]) h fun v0 h1 =>
 ob (binV pg.ty (tyD (.pointer 0)) .eql x0 (.pointer none)) fun v2 =>
 jn3 (fun vs4 h5 l6 =>
 ob (rNil (nt vs4 0)) fun v7 =>
 ob (rFld 5 v7) fun v8 =>
 ob (rLdA h5.get 1 v8) fun v9 =>
 hv (rStore h5 1 (nt vs4 1) v9) fun v10 h11 l12 =>
 fin h (rsK (rLdA h11.get 1 (nt vs4 1)) (some [])) h11 (l12 ++ l6)) fun j3 => fork v2
 (ob (oBuild pg T_bitmap_Map []) fun v13 =>
 hv (rStore h1 1 v0 v13) fun v14 h15 l16 =>
 fin h (rsK (rLdA h15.get 1 v0) (some [])) h15 (l16 ++ []))
 (j3 [x0, v0] h1 [])

-- 54 (asterism/bitmap.Map).All
noncomputable def F_bitmap_Map_All (call : CallF) (lp : LoopF) (x0 : Value) (h : H) : Option (Value × H × List Nat) :=
 al (aBx h.n T_bitmap_Map 1 x0) h fun v0 h1 =>
 ob (oFunc N_bitmap_Map_All_1 #[] #[v0]) fun v2 =>
 fin h (rsT v2 (some [])) h1 []

-- 55 (*asterism/table.Table).Get
noncomputable def F_table_Table_Get (call : CallF) (lp : LoopF) (x0 : Value) (x1 : Value) (x2 : Value) (h : H) : Option (Value × H × List Nat) :=
 al (aNew h.n T_api_Value [(.int .i64 0), (.int .i64 0), (.string ⟨#[]⟩)]) h fun v0 h1 =>
 hv (call (.fn N_table_Table_col) [x0, x2] h1) fun v2 h3 l4 =>
 ob (bI .lss v2 (.int .i64 0)) fun v5 =>
 gP (gd v5 false) (some x0) fun v6 =>
 gP (gd v5 false) (rNil v6) fun v7 =>
 gP (gd v5 false) (rFld 5 v7) fun v8 =>
 gP (gd v5 false) (rLdA h3.get 1 v8) fun v9 =>
 gP (gd v5 false) (some x1) fun v10 =>
 hv (gV (gd v5 false) (call (.fn N_bitmap_Map_Has) [v9, v10] h3) h3) fun v11 h12 l13 =>
 gP (gd v5 false) (unV .not v11) fun v14 =>
 ob (rPick v5 (.bool true) v14) fun v15 =>
 jn3 (fun vs17 h18 l19 =>
 ob (rNil (nt vs17 0)) fun v20 =>
 ob (rFld 4 v20) fun v21 =>
 ob (rLd1 h18.get v21) fun v22 =>
 ob (rIdxS 1 v22 (nt vs17 3)) fun v23 =>
 ob (rLd1 h18.get v23) fun v24 =>
 hv (call (.fn N_column_Column_At) [v24, (nt vs17 1)] h18) fun v25 h26 l27 =>
 ob (rExtract 0 v25) fun v28 =>
 ob (rExtract 1 v25) fun v29 =>
 hv (rStore h26 3 (nt vs17 2) v28) fun v30 h31 l32 =>
 fin h (rsK (rLdA h31.get 3 (nt vs17 2)) (rsT v29 (some []))) h31 (l32 ++ (l27 ++ l19))) fun j16 => fork v15
 (ob (oBuild pg T_api_Value []) fun v33 =>
 hv (rStore h12 3 v0 v33) fun v34 h35 l36 =>
 fin h (rsK (rLdA h35.get 3 v0) (rsT (.bool false) (some []))) h35 (l36 ++ (l13 ++ (l4 ++ []))))
 (j16 [x0, x1, v0, v2] h12 (l13 ++ (l4 ++ [])))

-- 56 asterism/val.Eq
noncomputable def F_val_Eq (call : CallF) (lp : LoopF) (x0 : Value) (x1 : Value) (h : H) : Option (Value × H × List Nat) :=
 al (aBx h.n T_api_Value 3 x0) h fun v0 h1 =>
 al (aBx h1.n T_api_Value 3 x1) h1 fun v2 h3 =>
 ob (rLdA h3.get 3 v0) fun v4 =>
 ob (rLdA h3.get 3 v2) fun v5 =>
 hv (call (.fn N_val_Compare) [v4, v5] h3) fun v6 h7 l8 =>
 ob (bI .eql v6 (.int .i64 0)) fun v9 =>
 fin h (rsT v9 (some [])) h7 (l8 ++ [])

-- 57 asterism/asterismref8.ColOf
noncomputable def F_asterismref8_ColOf_L58 (call : CallF) (lp : LoopF) : List Value → H → Option LOut := fun vs6 h7 =>
 ob (rFld 1 (nt vs6 1)) fun v8 =>
 ob (rLd1 h7.get v8) fun v9 =>
 ob (rLenL v9) fun v10 =>
 ob (bI .lss (nt vs6 3) v10) fun v11 =>
 jn3 (fun vs13 h14 l15 =>
 jn3 (fun vs17 h18 l19 =>
 ob (bI .add (nt vs17 3) (.int .i64 1)) fun v20 =>
 some ⟨.normal, [(nt vs17 0), (nt vs17 1), (nt vs17 2), v20], h18, l19⟩) fun j16 =>
 ob (rFld 1 (nt vs13 1)) fun v21 =>
 ob (rLd1 h14.get v21) fun v22 =>
 ob (rIdxS 4 v22 (nt vs13 3)) fun v23 =>
 ob (rFld 0 v23) fun v24 =>
 ob (rLd1 h14.get v24) fun v25 =>
 ob (binV pg.ty (tyD .string) .eql v25 (nt vs13 0)) fun v26 =>
 jn3 (fun vs28 h29 l30 =>
 j16 [(nt vs28 0), (nt vs28 1), (nt vs28 2), (nt vs28 3)] h29 l30) fun j27 => fork v26
 (some ⟨.ret, [(nt vs13 0), (nt vs13 1), (nt vs13 3), (nt vs13 3)], h14, l15⟩)
 (j27 [(nt vs13 0), (nt vs13 1), (nt vs13 2), (nt vs13 3)] h14 l15)) fun j12 => fork v11
 (j12 [(nt vs6 0), (nt vs6 1), (nt vs6 2), (nt vs6 3)] h7 [])
 (some ⟨(.exit 0), [(nt vs6 0), (nt vs6 1), (nt vs6 2), (nt vs6 3)], h7, []⟩)
noncomputable def F_asterismref8_ColOf (call : CallF) (lp : LoopF) (x0 : Value) (x1 : Value) (h : H) : Option (Value × H × List Nat) :=
 al (aBx h.n T_api_Table 4 x0) h fun v0 h1 =>
 jn3 (fun vs3 h4 l5 =>
 fin h (rsT (.int .i64 (-1)) (some [])) h4 l5) fun j2 =>
 ob (lp (F_asterismref8_ColOf_L58 call lp) [x1, v0, (.int .i64 0), (.int .i64 0)] h1) fun o31 =>
 onEx o31.ex (j2 [] o31.h (o31.lg ++ [])) (fun i32 => bif Nat.beq i32 0 then j2 [] o31.h (o31.lg ++ []) else none) (fin h (rsT (nt o31.vs 2) (some [])) o31.h (o31.lg ++ []))

-- 58 asterism/path.Col
noncomputable def F_path_Col_L122 (call : CallF) (lp : LoopF) : List Value → H → Option LOut := fun vs21 h22 =>
 ob (bI .lss (nt vs21 8) (nt vs21 7)) fun v23 =>
 jn3 (fun vs25 h26 l27 =>
 jn3 (fun vs29 h30 l31 =>
 ob (bI .add (nt vs29 8) (.int .i64 1)) fun v32 =>
 some ⟨.normal, [(nt vs29 0), (nt vs29 1), (nt vs29 2), (nt vs29 3), (nt vs29 4), (nt vs29 5), (nt vs29 6), (nt vs29 7), v32], h30, l31⟩) fun j28 =>
 ob (rIdxS 1 (nt vs25 6) (nt vs25 8)) fun v33 =>
 ob (rLd1 h26.get v33) fun v34 =>
 hv (call (.fn N_schema_Schema_Col) [(nt vs25 0), (nt vs25 1), v34] h26) fun v35 h36 l37 =>
 ob (rExtract 0 v35) fun v38 =>
 ob (rExtract 1 v35) fun v39 =>
 al (aNew h36.n T_api_Col [(.string ⟨#[]⟩), (.int .i64 0), (.bool false), (.string ⟨#[]⟩)]) h36 fun v40 h41 =>
 hv (rStore h41 4 v40 v38) fun v42 h43 l44 =>
 jn3 (fun vs46 h47 l48 =>
 ob (rFld 3 (nt vs46 5)) fun v49 =>
 ob (rLd1 h47.get v49) fun v50 =>
 j28 [(nt vs46 0), v50, (nt vs46 1), (nt vs46 2), (nt vs46 3), (nt vs46 4), (nt vs46 6), (nt vs46 7), (nt vs46 8)] h47 l48) fun j45 =>
 ob (unV .not v39) fun v51 =>
 jn3 (fun vs53 h54 l55 =>
 j45 [(nt vs53 0), (nt vs53 1), (nt vs53 2), (nt vs53 3), (nt vs53 4), (nt vs53 5), (nt vs53 6), (nt vs53 7), (nt vs53 8)] h54 l55) fun j52 => fork v51
 (ob (oBuild pg T_api_Col []) fun v56 =>
 hv (rStore h43 4 (nt vs25 3) v56) fun v57 h58 l59 =>
 some ⟨.ret, [(nt vs25 0), (nt vs25 1), (nt vs25 2), (nt vs25 3), (.string ⟨#[]⟩), (.int .i64 3), (nt vs25 6), (nt vs25 7), (nt vs25 8)], h58, (l59 ++ (l44 ++ (l37 ++ l27)))⟩)
 (ob (rLenL (nt vs25 2)) fun v60 =>
 ob (bI .sub v60 (.int .i64 1)) fun v61 =>
 ob (bI .eql (nt vs25 8) v61) fun v62 =>
 jn3 (fun vs64 h65 l66 =>
 j52 [(nt vs64 0), (nt vs64 1), (nt vs64 2), (nt vs64 3), (nt vs64 4), (nt vs64 5), (nt vs64 6), (nt vs64 7), (nt vs64 8)] h65 l66) fun j63 => fork v62
 (ob (rLdA h43.get 4 v40) fun v67 =>
 hv (rStore h43 4 (nt vs25 3) v67) fun v68 h69 l70 =>
 some ⟨.ret, [(nt vs25 0), (nt vs25 1), (nt vs25 2), (nt vs25 3), (nt vs25 1), (.int .i64 0), (nt vs25 6), (nt vs25 7), (nt vs25 8)], h69, (l70 ++ (l44 ++ (l37 ++ l27)))⟩)
 (ob (rFld 3 v40) fun v71 =>
 ob (rLd1 h43.get v71) fun v72 =>
 ob (binV pg.ty (tyD .string) .eql v72 (.string ⟨#[]⟩)) fun v73 =>
 jn3 (fun vs75 h76 l77 =>
 j63 [(nt vs75 0), (nt vs75 1), (nt vs75 2), (nt vs75 3), (nt vs75 4), (nt vs75 5), (nt vs75 6), (nt vs75 7), (nt vs75 8)] h76 l77) fun j74 => fork v73
 (ob (oBuild pg T_api_Col []) fun v78 =>
 hv (rStore h43 4 (nt vs25 3) v78) fun v79 h80 l81 =>
 some ⟨.ret, [(nt vs25 0), (nt vs25 1), (nt vs25 2), (nt vs25 3), (.string ⟨#[]⟩), (.int .i64 9), (nt vs25 6), (nt vs25 7), (nt vs25 8)], h80, (l81 ++ (l44 ++ (l37 ++ l27)))⟩)
 (j74 [(nt vs25 0), (nt vs25 2), (nt vs25 3), (nt vs25 4), (nt vs25 5), v40, (nt vs25 6), (nt vs25 7), (nt vs25 8)] h43 (l44 ++ (l37 ++ l27)))))) fun j24 => fork v23
 (j24 [(nt vs21 0), (nt vs21 1), (nt vs21 2), (nt vs21 3), (nt vs21 4), (nt vs21 5), (nt vs21 6), (nt vs21 7), (nt vs21 8)] h22 [])
 (some ⟨(.exit 0), [(nt vs21 0), (nt vs21 1), (nt vs21 2), (nt vs21 3), (nt vs21 4), (nt vs21 5), (nt vs21 6), (nt vs21 7), (nt vs21 8)], h22, []⟩)
noncomputable def F_path_Col (call : CallF) (lp : LoopF) (x0 : Value) (x1 : Value) (x2 : Value) (h : H) : Option (Value × H × List Nat) :=
 al (aNew h.n T_api_Col [(.string ⟨#[]⟩), (.int .i64 0), (.bool false), (.string ⟨#[]⟩)]) h fun v0 h1 =>
 ob (rLenL x2) fun v2 =>
 ob (bI .eql v2 (.int .i64 0)) fun v3 =>
 gP (gd v3 false) (some x2) fun v4 =>
 gP (gd v3 false) (rLenL v4) fun v5 =>
 gP (gd v3 false) (bI .gtr v5 (.int .i64 4)) fun v6 =>
 ob (rPick v3 (.bool true) v6) fun v7 =>
 jn3 (fun vs9 h10 l11 =>
 ob (rLenL (nt vs9 2)) fun v12 =>
 jn3 (fun vs14 h15 l16 =>
 ob (oBuild pg T_api_Col []) fun v17 =>
 hv (rStore h15 4 (nt vs14 0) v17) fun v18 h19 l20 =>
 fin h (rsK (rLdA h19.get 4 (nt vs14 0)) (rsT (.string ⟨#[]⟩) (rsT (.int .i64 3) (some [])))) h19 (l20 ++ l16)) fun j13 =>
 ob (lp (F_path_Col_L122 call lp) [(nt vs9 0), (nt vs9 1), (nt vs9 2), (nt vs9 3), (nt vs9 4), (nt vs9 5), (nt vs9 2), v12, (.int .i64 0)] h10) fun o82 =>
 onEx o82.ex (j13 [(nt o82.vs 3)] o82.h (o82.lg ++ l11)) (fun i83 => bif Nat.beq i83 0 then j13 [(nt o82.vs 3)] o82.h (o82.lg ++ l11) else none) (fin h (rsK (rLdA o82.h.get 4 (nt o82.vs 3)) (rsT (nt o82.vs 4) (rsT (nt o82.vs 5) (some [])))) o82.h (o82.lg ++ l11))) fun j8 => fork v7
 (ob (oBuild pg T_api_Col []) fun v84 =>
 hv (rStore h1 4 v0 v84) fun v85 h86 l87 =>
 fin h (rsK (rLdA h86.get 4 v0) (rsT (.string ⟨#[]⟩) (rsT (.int .i64 5) (some [])))) h86 (l87 ++ []))
 (j8 [x0, x1, x2, v0, (.string ⟨#[]⟩), (.int .i64 0)] h1 [])

-- 59 (asterism/bitmap.Map).Has
noncomputable def F_bitmap_Map_Has (call : CallF) (lp : LoopF) (x0 : Value) (x1 : Value) (h : H) : Option (Value × H × List Nat) :=
 al (aBx h.n T_bitmap_Map 1 x0) h fun v0 h1 =>
 al (aBx h1.n T_i64_b 1 x1) h1 fun v2 h3 =>
 ob (rFld 0 v0) fun v4 =>
 ob (rLd1 h3.get v4) fun v5 =>
 ob (oFunc N_bitmap_Map_Has_1 #[] #[v2]) fun v6 =>
 hv (call (.fn N_slices_ContainsFunc_2_int_2_int) [v5, v6] h3) fun v7 h8 l9 =>
 fin h (rsT v7 (some [])) h8 (l9 ++ [])

-- 60 (*asterism/schema.Schema).Col
noncomputable def F_schema_Schema_Col (call : CallF) (lp : LoopF) (x0 : Value) (x1 : Value) (x2 : Value) (h : H) : Option (Value × H × List Nat) :=
 al (aNew h.n T_api_Col [(.string ⟨#[]⟩), (.int .i64 0), (.bool false), (.string ⟨#[]⟩)]) h fun v0 h1 =>
 hv (call (.fn N_schema_Schema_Find) [x0, x1] h1) fun v2 h3 l4 =>
 ob (rExtract 0 v2) fun v5 =>
 ob (rExtract 1 v2) fun v6 =>
 al (aNew h3.n T_api_Table [(.string ⟨#[]⟩), (.slice none 0 0), (.string ⟨#[]⟩), (.slice none 0 0)]) h3 fun v7 h8 =>
 hv (rStore h8 4 v7 v5) fun v9 h10 l11 =>
 ob (rLdA h10.get 4 v7) fun v12 =>
 hv (call (.fn N_schema_col) [v12, x2] h10) fun v13 h14 l15 =>
 ob (bI .lss v13 (.int .i64 0)) fun v16 =>
 jn3 (fun vs18 h19 l20 =>
 ob (rFld 1 (nt vs18 1)) fun v21 =>
 ob (rLd1 h19.get v21) fun v22 =>
 ob (rIdxS 4 v22 (nt vs18 2)) fun v23 =>
 ob (rLdA h19.get 4 v23) fun v24 =>
 hv (rStore h19 4 (nt vs18 0) v24) fun v25 h26 l27 =>
 fin h (rsK (rLdA h26.get 4 (nt vs18 0)) (rsT (.bool true) (some []))) h26 (l27 ++ l20)) fun j17 => fork v16
 (ob (oBuild pg T_api_Col []) fun v28 =>
 hv (rStore h14 4 v0 v28) fun v29 h30 l31 =>
 fin h (rsK (rLdA h30.get 4 v0) (rsT (.bool false) (some []))) h30 (l31 ++ (l15 ++ (l11 ++ (l4 ++ [])))))
 (j17 [v0, v7, v13] h14 (l15 ++ (l11 ++ (l4 ++ []))))

-- 65 (asterism/bitmap.Map).Count
noncomputable def F_bitmap_Map_Count (call : CallF) (lp : LoopF) (x0 : Value) (h : H) : Option (Value × H × List Nat) :=
 al (aBx h.n T_bitmap_Map 1 x0) h fun v0 h1 =>
 ob (rLdA h1.get 1 v0) fun v2 =>
 hv (call (.fn N_bitmap_Map_Rank) [v2, (.int .i64 65536)] h1) fun v3 h4 l5 =>
 fin h (rsT v3 (some [])) h4 (l5 ++ [])

-- 66 (*asterism/table.Table).Next
noncomputable def F_table_Table_Next (call : CallF) (lp : LoopF) (x0 : Value) (h : H) : Option (Value × H × List Nat) :=
 ob (binV pg.ty (tyD (.pointer 0)) .eql x0 (.pointer none)) fun v0 =>
 jn3 (fun vs2 h3 l4 =>
 ob (rNil (nt vs2 0)) fun v5 =>
 ob (rFld 6 v5) fun v6 =>
 ob (rLd1 h3.get v6) fun v7 =>
 fin h (rsT v7 (some [])) h3 l4) fun j1 => fork v0
 (fin h (rsT (.int .i64 0) (some [])) h [])
 (j1 [x0] h [])

-- 67 (*asterism/table.Table).Row
noncomputable def F_table_Table_Row_L250 (call : CallF) (lp : LoopF) : List Value → H → Option LOut := fun vs23 h24 =>
 ob (bI .lss (nt vs23 6) (nt vs23 5)) fun v25 =>
 jn3 (fun vs27 h28 l29 =>
 jn3 (fun vs31 h32 l33 =>
 ob (bI .add (nt vs31 6) (.int .i64 1)) fun v34 =>
 some ⟨.normal, [(nt vs31 0), (nt vs31 1), (nt vs31 2), (nt vs31 3), (nt vs31 4), (nt vs31 5), v34], h32, l33⟩) fun j30 =>
 ob (rIdxS 1 (nt vs27 4) (nt vs27 6)) fun v35 =>
 ob (rLd1 h28.get v35) fun v36 =>
 hv (call (.fn N_column_Column_At) [v36, (nt vs27 0)] h28) fun v37 h38 l39 =>
 ob (rExtract 0 v37) fun v40 =>
 ob (rExtract 1 v37) fun v41 =>
 al (aNew h38.n T_api_Value [(.int .i64 0), (.int .i64 0), (.string ⟨#[]⟩)]) h38 fun v42 h43 =>
 hv (rStore h43 3 v42 v40) fun v44 h45 l46 =>
 ob (rLdA h45.get 3 v42) fun v47 =>
 al (aBuildS pg h45.n T_Lapi_Value 1 [(0, v47)]) h45 fun v48 h49 =>
 hv (rApp h49 T_api_Value 3 32 [(.int .i64 0), (.int .i64 0), (.string ⟨#[]⟩)] (nt vs27 3) v48) fun v50 h51 l52 =>
 j30 [(nt vs27 0), (nt vs27 1), (nt vs27 2), v50, (nt vs27 4), (nt vs27 5), (nt vs27 6)] h51 (l52 ++ (l46 ++ (l39 ++ l29)))) fun j26 => fork v25
 (j26 [(nt vs23 0), (nt vs23 1), (nt vs23 2), (nt vs23 3), (nt vs23 4), (nt vs23 5), (nt vs23 6)] h24 [])
 (some ⟨(.exit 0), [(nt vs23 0), (nt vs23 1), (nt vs23 2), (nt vs23 3), (nt vs23 4), (nt vs23 5), (nt vs23 6)], h24, []⟩)
noncomputable def F_table_Table_Row (call : CallF) (lp : LoopF) (x0 : Value) (x1 : Value) (h : H) : Option (Value × H × List Nat) :=
 ob (binV pg.ty (tyD (.pointer 0)) .eql x0 (.pointer none)) fun v0 =>
 gP (gd v0 false) (some x0) fun v1 =>
 gP (gd v0 false) (rNil v1) fun v2 =>
 gP (gd v0 false) (rFld 5 v2) fun v3 =>
 gP (gd v0 false) (rLdA h.get 1 v3) fun v4 =>
 gP (gd v0 false) (some x1) fun v5 =>
 hv (gV (gd v0 false) (call (.fn N_bitmap_Map_Has) [v4, v5] h) h) fun v6 h7 l8 =>
 gP (gd v0 false) (unV .not v6) fun v9 =>
 ob (rPick v0 (.bool true) v9) fun v10 =>
 jn3 (fun vs12 h13 l14 =>
 ob (rNil (nt vs12 0)) fun v15 =>
 ob (rFld 4 v15) fun v16 =>
 ob (rLd1 h13.get v16) fun v17 =>
 ob (rLenL v17) fun v18 =>
 jn3 (fun vs20 h21 l22 =>
 fin h (rsT (nt vs20 0) (rsT (.bool true) (some []))) h21 l22) fun j19 =>
 ob (lp (F_table_Table_Row_L250 call lp) [(nt vs12 1), (nt vs12 2), (nt vs12 3), (.slice none 0 0), v17, v18, (.int .i64 0)] h13) fun o53 =>
 onEx o53.ex (j19 [(nt o53.vs 3)] o53.h (o53.lg ++ l14)) (fun i54 => bif Nat.beq i54 0 then j19 [(nt o53.vs 3)] o53.h (o53.lg ++ l14) else none) (fin h (rsT (nt o53.vs 1) (rsT (nt o53.vs 2) (some []))) o53.h (o53.lg ++ l14))) fun j11 => fork v10
 (fin h (rsT (.slice none 0 0) (rsT (.bool false) (some []))) h7 (l8 ++ []))
 (j11 [x0, x1, (.slice none 0 0), (.bool false)] h7 (l8 ++ []))

-- 69 asterism/asterismlaw12.Begun
noncomputable def F_asterismlaw12_Begun (call : CallF) (lp : LoopF) (h : H) : Option (Value × H × List Nat) :=
 hv (call (.fn N_asterismlaw12_begun) [] h) fun v0 h1 l2 =>
 fin h (rsT v0 (some [])) h1 (l2 ++ [])

-- 70 asterism/batch.one
noncomputable def F_batch_one (call : CallF) (lp : LoopF) (x0 : Value) (x1 : Value) (h : H) : Option (Value × H × List Nat) :=
 al (aBx h.n T_api_Op 5 x1) h fun v0 h1 =>
 ob (rFld 1 v0) fun v2 =>
 ob (rLd1 h1.get v2) fun v3 =>
 hv (call (.fn N_data_DB_Table) [x0, v3] h1) fun v4 h5 l6 =>
 jn3 (fun vs8 h9 l10 =>
 fin h (rsT (.int .i64 (-1)) (rsT (.int .i64 0) (some []))) h9 l10) fun j7 =>
 ob (rFld 0 v0) fun v11 =>
 ob (rLd1 h5.get v11) fun v12 =>
 ob (bI .neq v12 (.int .i64 1)) fun v13 =>
 gP (gd v13 true) (rFld 0 v0) fun v14 =>
 gP (gd v13 true) (rLd1 h5.get v14) fun v15 =>
 gP (gd v13 true) (bI .neq v15 (.int .i64 2)) fun v16 =>
 ob (rPick v13 v16 (.bool false)) fun v17 =>
 gP (gd v17 true) (rFld 0 v0) fun v18 =>
 gP (gd v17 true) (rLd1 h5.get v18) fun v19 =>
 gP (gd v17 true) (bI .neq v19 (.int .i64 3)) fun v20 =>
 ob (rPick v17 v20 (.bool false)) fun v21 =>
 jn3 (fun vs23 h24 l25 =>
 jn3 (fun vs27 h28 l29 =>
 j7 [] h28 l29) fun j26 => fork (nt vs23 2)
 (fin h (rsT (.int .i64 (-1)) (rsT (.int .i64 1) (some []))) h24 l25)
 (ob (binV pg.ty (tyD (.pointer 0)) .eql (nt vs23 1) (.pointer none)) fun v30 =>
 jn3 (fun vs32 h33 l34 =>
 j26 [] h33 l34) fun j31 => fork v30
 (fin h (rsT (.int .i64 (-1)) (rsT (.int .i64 3) (some []))) h24 l25)
 (ob (rFld 0 (nt vs23 0)) fun v35 =>
 ob (rLd1 h24.get v35) fun v36 =>
 ob (bI .eql v36 (.int .i64 1)) fun v37 =>
 jn3 (fun vs39 h40 l41 =>
 j31 [] h40 l41) fun j38 => fork v37
 (ob (rFld 4 (nt vs23 0)) fun v42 =>
 ob (rLd1 h24.get v42) fun v43 =>
 hv (call (.fn N_table_Table_Insert) [(nt vs23 1), v43] h24) fun v44 h45 l46 =>
 ob (rExtract 0 v44) fun v47 =>
 ob (rExtract 1 v44) fun v48 =>
 fin h (rsT v47 (rsT v48 (some []))) h45 (l46 ++ l25))
 (ob (rFld 0 (nt vs23 0)) fun v49 =>
 ob (rLd1 h24.get v49) fun v50 =>
 ob (bI .eql v50 (.int .i64 3)) fun v51 =>
 jn3 (fun vs53 h54 l55 =>
 j38 [] h54 l55) fun j52 => fork v51
 (ob (rFld 2 (nt vs23 0)) fun v56 =>
 ob (rLd1 h24.get v56) fun v57 =>
 ob (rFld 3 (nt vs23 0)) fun v58 =>
 ob (rLd1 h24.get v58) fun v59 =>
 ob (rFld 4 (nt vs23 0)) fun v60 =>
 ob (rLd1 h24.get v60) fun v61 =>
 ob (rIdxS 3 v61 (.int .i64 0)) fun v62 =>
 ob (rLdA h24.get 3 v62) fun v63 =>
 hv (call (.fn N_table_Table_Set) [(nt vs23 1), v57, v59, v63] h24) fun v64 h65 l66 =>
 dr [0, 0, 2, 0, 8, 0, 32, 96, 224, 511, 1023, 2047] [mP h24, mP h24, mR h24 (rdP v56), mP h24, mR h24 (rdP v58), mP h24, mR h24 (rdP v60), mP h24, mR h24 (rdP v62), mH h24 (rdL [(nt vs23 1), v57, v59, v63]) l66 h65, mP h65, mP h65] fun l67 =>
 fin h (rsT (.int .i64 (-1)) (rsT v64 (some []))) h65 (l67 ++ l25))
 (ob (rFld 2 (nt vs23 0)) fun v68 =>
 ob (rLd1 h24.get v68) fun v69 =>
 hv (call (.fn N_table_Table_Delete) [(nt vs23 1), v69] h24) fun v70 h71 l72 =>
 ob (unV .not v70) fun v73 =>
 jn3 (fun vs75 h76 l77 =>
 j52 [] h76 l77) fun j74 => fork v73
 (fin h (rsT (.int .i64 (-1)) (rsT (.int .i64 6) (some []))) h71 (l72 ++ l25))
 (j74 [] h71 (l72 ++ l25))))))) fun j22 => fork v21
 (j22 [v0, v4, v21] h5 (l6 ++ []))
 (ob (rFld 0 v0) fun v78 =>
 ob (rLd1 h5.get v78) fun v79 =>
 ob (bI .eql v79 (.int .i64 3)) fun v80 =>
 gP (gd v80 true) (rFld 4 v0) fun v81 =>
 gP (gd v80 true) (rLd1 h5.get v81) fun v82 =>
 gP (gd v80 true) (rLenL v82) fun v83 =>
 gP (gd v80 true) (bI .neq v83 (.int .i64 1)) fun v84 =>
 ob (rPick v80 v84 (.bool false)) fun v85 =>
 j22 [v0, v4, v85] h5 (l6 ++ []))

-- 71 (*asterism/asterismref12.DB).one
noncomputable def F_asterismref12_DB_one (call : CallF) (lp : LoopF) (x0 : Value) (x1 : Value) (h : H) : Option (Value × H × List Nat) :=
 al (aBx h.n T_api_Op 5 x1) h fun v0 h1 =>
 ob (rFld 0 v0) fun v2 =>
 ob (rLd1 h1.get v2) fun v3 =>
 ob (bI .lss v3 (.int .i64 1)) fun v4 =>
 gP (gd v4 false) (rFld 0 v0) fun v5 =>
 gP (gd v4 false) (rLd1 h1.get v5) fun v6 =>
 gP (gd v4 false) (bI .gtr v6 (.int .i64 3)) fun v7 =>
 ob (rPick v4 (.bool true) v7) fun v8 =>
 gP (gd v8 false) (rFld 0 v0) fun v9 =>
 gP (gd v8 false) (rLd1 h1.get v9) fun v10 =>
 gP (gd v8 false) (bI .eql v10 (.int .i64 3)) fun v11 =>
 gP (gd v8 false) (some v11) fun v12 =>
 gP (gd v12 true) (rFld 4 v0) fun v13 =>
 gP (gd v12 true) (rLd1 h1.get v13) fun v14 =>
 gP (gd v12 true) (rLenL v14) fun v15 =>
 gP (gd v12 true) (bI .neq v15 (.int .i64 1)) fun v16 =>
 gP (gd v8 false) (rPick v12 v16 (.bool false)) fun v17 =>
 ob (rPick v8 (.bool true) v17) fun v18 =>
 jn3 (fun vs20 h21 l22 =>
 ob (rNil (nt vs20 0)) fun v23 =>
 ob (rFld 0 v23) fun v24 =>
 ob (rLd1 h21.get v24) fun v25 =>
 ob (rFld 1 (nt vs20 1)) fun v26 =>
 ob (rLd1 h21.get v26) fun v27 =>
 hv (call (.fn N_asterismref8_Schema_Find) [v25, v27] h21) fun v28 h29 l30 =>
 dr [0, 1, 3, 7, 0, 16, 63, 127] [mP h21, mP h21, mP h21, mR h21 (rdP v24), mP h21, mR h21 (rdP v26), mH h21 (rdL [v25, v27]) l30 h29, mP h29] fun l31 =>
 ob (bI .lss v28 (.int .i64 0)) fun v32 =>
 jn3 (fun vs34 h35 l36 =>
 ob (rFld 0 (nt vs34 1)) fun v37 =>
 ob (rLd1 h35.get v37) fun v38 =>
 jn3 (fun vs40 h41 l42 =>
 ob (rFld 2 (nt vs40 1)) fun v43 =>
 ob (rLd1 h41.get v43) fun v44 =>
 ob (rFld 3 (nt vs40 1)) fun v45 =>
 ob (rLd1 h41.get v45) fun v46 =>
 ob (rFld 4 (nt vs40 1)) fun v47 =>
 ob (rLd1 h41.get v47) fun v48 =>
 ob (rIdxS 3 v48 (.int .i64 0)) fun v49 =>
 ob (rLdA h41.get 3 v49) fun v50 =>
 hv (call (.fn N_asterismref12_DB_Set) [(nt vs40 0), (nt vs40 2), v44, v46, v50] h41) fun v51 h52 l53 =>
 dr [0, 0, 0, 4, 0, 16, 0, 64, 192, 448, 1023, 2047, 4095] [mP h41, mP h41, mP h41, mR h41 (rdP v43), mP h41, mR h41 (rdP v45), mP h41, mR h41 (rdP v47), mP h41, mR h41 (rdP v49), mH h41 (rdL [(nt vs40 0), (nt vs40 2), v44, v46, v50]) l53 h52, mP h52, mP h52] fun l54 =>
 fin h (rsT (.int .i64 0) (rsT v51 (some []))) h52 (l54 ++ l42)) fun j39 =>
 ob (bI .eql v38 (.int .i64 1)) fun v55 =>
 jn3 (fun vs57 h58 l59 =>
 j39 [(nt vs57 0), (nt vs57 1), (nt vs57 2)] h58 l59) fun j56 => fork v55
 (ob (rFld 4 (nt vs34 1)) fun v60 =>
 ob (rLd1 h35.get v60) fun v61 =>
 hv (call (.fn N_asterismref12_DB_Insert) [(nt vs34 0), (nt vs34 2), v61] h35) fun v62 h63 l64 =>
 ob (rExtract 0 v62) fun v65 =>
 ob (rExtract 1 v62) fun v66 =>
 fin h (rsT v65 (rsT v66 (some []))) h63 (l64 ++ l36))
 (ob (bI .eql v38 (.int .i64 2)) fun v67 =>
 jn3 (fun vs69 h70 l71 =>
 j56 [(nt vs69 0), (nt vs69 1), (nt vs69 2)] h70 l71) fun j68 => fork v67
 (ob (rFld 2 (nt vs34 1)) fun v72 =>
 ob (rLd1 h35.get v72) fun v73 =>
 hv (call (.fn N_asterismref12_DB_Delete) [(nt vs34 0), (nt vs34 2), v73] h35) fun v74 h75 l76 =>
 ob (unV .not v74) fun v77 =>
 jn3 (fun vs79 h80 l81 =>
 fin h (rsT (.int .i64 0) (rsT (.int .i64 0) (some []))) h80 l81) fun j78 => fork v77
 (fin h (rsT (.int .i64 0) (rsT (.int .i64 6) (some []))) h75 (l76 ++ l36))
 (j78 [] h75 (l76 ++ l36)))
 (j68 [(nt vs34 0), (nt vs34 1), (nt vs34 2)] h35 l36))) fun j33 => fork v32
 (fin h (rsT (.int .i64 0) (rsT (.int .i64 3) (some []))) h29 (l31 ++ l22))
 (j33 [(nt vs20 0), (nt vs20 1), v28] h29 (l31 ++ l22))) fun j19 => fork v18
 (fin h (rsT (.int .i64 0) (rsT (.int .i64 1) (some []))) h1 [])
 (j19 [x0, v0] h1 [])

-- 72 asterism/schema.New
noncomputable def F_schema_New (call : CallF) (lp : LoopF) (h : H) : Option (Value × H × List Nat) :=
 ob (oBuild pg T_schema_Schema []) fun v0 =>
 al (aBx h.n T_schema_Schema 1 v0) h fun v1 h2 =>
 fin h (rsT v1 (some [])) h2 []

-- 73 (*asterism/table.Table).may
noncomputable def F_table_Table_may (call : CallF) (lp : LoopF) (x0 : Value) (x1 : Value) (x2 : Value) (h : H) : Option (Value × H × List Nat) :=
 al (aBx h.n T_api_Value 3 x2) h fun v0 h1 =>
 ob (rFld 0 v0) fun v2 =>
 ob (rLd1 h1.get v2) fun v3 =>
 ob (bI .eql v3 (.int .i64 0)) fun v4 =>
 gP (gd v4 false) (rFld 0 v0) fun v5 =>
 gP (gd v4 false) (rLd1 h1.get v5) fun v6 =>
 gP (gd v4 false) (some x0) fun v7 =>
 gP (gd v4 false) (rNil v7) fun v8 =>
 gP (gd v4 false) (rFld 0 v8) fun v9 =>
 gP (gd v4 false) (rFld 1 v9) fun v10 =>
 gP (gd v4 false) (rLd1 h1.get v10) fun v11 =>
 gP (gd v4 false) (some x1) fun v12 =>
 gP (gd v4 false) (rIdxS 4 v11 v12) fun v13 =>
 gP (gd v4 false) (rFld 1 v13) fun v14 =>
 gP (gd v4 false) (rLd1 h1.get v14) fun v15 =>
 gP (gd v4 false) (bI .eql v6 v15) fun v16 =>
 ob (rPick v4 (.bool true) v16) fun v17 =>
 gP (gd v17 true) (rLdA h1.get 3 v0) fun v18 =>
 hv (gV (gd v17 true) (call (.fn N_val_May) [v18] h1) h1) fun v19 h20 l21 =>
 ob (rPick v17 v19 (.bool false)) fun v22 =>
 dr [0, 1, 3, 7, 15, 31, 15, 79, 207, 463, 975, 15, 4047, 8143, 16335, 32767, 65535, 131071, 262143, 524287, 1048575, 2097151] [mP h1, mR h1 (rdP v2), mP h1, mP h1, mG (gd v4 false) .pure [] h1 h1 [], mG (gd v4 false) .pure (rdP v5) h1 h1 [], mG (gd v4 false) .pure [] h1 h1 [], mG (gd v4 false) .pure [] h1 h1 [], mG (gd v4 false) .pure [] h1 h1 [], mG (gd v4 false) .pure [] h1 h1 [], mG (gd v4 false) .pure (rdP v10) h1 h1 [], mG (gd v4 false) .pure [] h1 h1 [], mG (gd v4 false) .pure [] h1 h1 [], mG (gd v4 false) .pure [] h1 h1 [], mG (gd v4 false) .pure (rdP v14) h1 h1 [], mG (gd v4 false) .pure [] h1 h1 [], mP h1, mP h1, mG (gd v17 true) .pure (rdP v0) h1 h1 [], mG (gd v17 true) .heavy (rdL [v18]) h1 h20 l21, mP h20, mP h20] fun l23 =>
 fin h (rsT v22 (some [])) h20 (l23 ++ [])

-- 74 (*asterism/column.Column).Append
noncomputable def F_column_Column_Append (call : CallF) (lp : LoopF) (x0 : Value) (x1 : Value) (h : H) : Option (Value × H × List Nat) :=
 al (aBx h.n T_api_Value 3 x1) h fun v0 h1 =>
 ob (rLdA h1.get 3 v0) fun v2 =>
 hv (call (.fn N_column_Column_may) [x0, v2] h1) fun v3 h4 l5 =>
 ob (unV .not v3) fun v6 =>
 jn3 (fun vs8 h9 l10 =>
 ob (rNil (nt vs8 0)) fun v11 =>
 ob (rFld 1 v11) fun v12 =>
 ob (rLd1 h9.get v12) fun v13 =>
 ob (rLdA h9.get 3 (nt vs8 1)) fun v14 =>
 al (aBuildS pg h9.n T_Lapi_Value 1 [(0, v14)]) h9 fun v15 h16 =>
 hv (rApp h16 T_api_Value 3 32 [(.int .i64 0), (.int .i64 0), (.string ⟨#[]⟩)] v13 v15) fun v17 h18 l19 =>
 ob (rNil (nt vs8 0)) fun v20 =>
 ob (rFld 1 v20) fun v21 =>
 hv (rStore h18 1 v21 v17) fun v22 h23 l24 =>
 dr [0, 0, 2, 6, 14, 0, 32, 126, 255, 511, 1023] [mP h9, mP h9, mP h9, mP h9, mR h9 (rdP v12), mR h9 (rdP (nt vs8 1)), mA h9 [], mH h16 (rdL [v13, v15]) l19 h18, mP h18, mP h18, mH h18 [] l24 h23] fun l25 =>
 ob (rLdA h23.get 3 (nt vs8 1)) fun v26 =>
 hv (call (.fn N_column_Column_count) [(nt vs8 0), v26] h23) fun v27 h28 l29 =>
 fin h (rsT (.bool true) (some [])) h28 (l29 ++ (l25 ++ l10))) fun j7 => fork v6
 (fin h (rsT (.bool false) (some [])) h4 (l5 ++ []))
 (j7 [x0, v0] h4 (l5 ++ []))

-- 75 asterism/bitmap.Or
noncomputable def F_bitmap_Or_L506 (call : CallF) (lp : LoopF) : List Value → H → Option LOut := fun vs29 h30 =>
 ob (bI .lss (nt vs29 4) (nt vs29 3)) fun v31 =>
 jn3 (fun vs33 h34 l35 =>
 jn3 (fun vs37 h38 l39 =>
 ob (bI .add (nt vs37 4) (.int .i64 1)) fun v40 =>
 some ⟨.normal, [(nt vs37 0), (nt vs37 1), (nt vs37 2), (nt vs37 3), v40], h38, l39⟩) fun j36 =>
 ob (rIdxS 2 (nt vs33 2) (nt vs33 4)) fun v41 =>
 ob (rLdA h34.get 2 v41) fun v42 =>
 al (aNew h34.n T_A2i64 [(.int .i64 0), (.int .i64 0)]) h34 fun v43 h44 =>
 hv (rStore h44 2 v43 v42) fun v45 h46 l47 =>
 ob (rIdxA 2 1 v43 (.int .i64 0)) fun v48 =>
 ob (rLd1 h46.get v48) fun v49 =>
 ob (rIdxA 2 1 v43 (.int .i64 1)) fun v50 =>
 ob (rLd1 h46.get v50) fun v51 =>
 hv (call (.fn N_bitmap_Map_add) [(nt vs33 1), v49, v51] h46) fun v52 h53 l54 =>
 j36 [(nt vs33 0), (nt vs33 1), (nt vs33 2), (nt vs33 3), (nt vs33 4)] h53 (l54 ++ (l47 ++ l35))) fun j32 => fork v31
 (j32 [(nt vs29 0), (nt vs29 1), (nt vs29 2), (nt vs29 3), (nt vs29 4)] h30 [])
 (some ⟨(.exit 0), [(nt vs29 0), (nt vs29 1), (nt vs29 2), (nt vs29 3), (nt vs29 4)], h30, []⟩)
noncomputable def F_bitmap_Or (call : CallF) (lp : LoopF) (x0 : Value) (x1 : Value) (h : H) : Option (Value × H × List Nat) :=
 al (aBx h.n T_bitmap_Map 1 x0) h fun v0 h1 =>
 al (aBx h1.n T_bitmap_Map 1 x1) h1 fun v2 h3 =>
 al (aNew h3.n T_bitmap_Map [(.slice none 0 0)]) h3 fun v4 h5 =>
 ob (rFld 0 v0) fun v6 =>
 ob (rLd1 h5.get v6) fun v7 =>
 ob (rFld 0 v2) fun v8 =>
 ob (rLd1 h5.get v8) fun v9 =>
 al (aBuildS pg h5.n T_LLA2i64 2 [(0, v7), (1, v9)]) h5 fun v10 h11 =>
 hv (call (.fn N_slices_Concat_2_int_2_int) [v10] h11) fun v12 h13 l14 =>
 hv (call (.fn N_slices_SortFunc_2_int_2_int) [v12, (.func (.func N_bitmap_Or_1) #[] #[])] h13) fun v15 h16 l17 =>
 al (aNew h16.n T_bitmap_Map [(.slice none 0 0)]) h16 fun v18 h19 =>
 ob (rLenL v12) fun v20 =>
 jn3 (fun vs22 h23 l24 =>
 ob (rLdA h23.get 1 (nt vs22 1)) fun v25 =>
 hv (rStore h23 1 (nt vs22 0) v25) fun v26 h27 l28 =>
 fin h (rsK (rLdA h27.get 1 (nt vs22 0)) (some [])) h27 (l28 ++ l24)) fun j21 =>
 ob (lp (F_bitmap_Or_L506 call lp) [v4, v18, v12, v20, (.int .i64 0)] h19) fun o55 =>
 onEx o55.ex (j21 [(nt o55.vs 0), (nt o55.vs 1)] o55.h (o55.lg ++ (l17 ++ (l14 ++ [])))) (fun i56 => bif Nat.beq i56 0 then j21 [(nt o55.vs 0), (nt o55.vs 1)] o55.h (o55.lg ++ (l17 ++ (l14 ++ []))) else none) (fin h (rsK (rLdA o55.h.get 1 (nt o55.vs 0)) (some [])) o55.h (o55.lg ++ (l17 ++ (l14 ++ []))))

-- 76 asterism/bitmap.Of
noncomputable def F_bitmap_Of_L506 (call : CallF) (lp : LoopF) : List Value → H → Option LOut := fun vs19 h20 =>
 ob (bI .lss (nt vs19 4) (nt vs19 3)) fun v21 =>
 jn3 (fun vs23 h24 l25 =>
 jn3 (fun vs27 h28 l29 =>
 ob (bI .add (nt vs27 4) (.int .i64 1)) fun v30 =>
 some ⟨.normal, [(nt vs27 0), (nt vs27 1), (nt vs27 2), (nt vs27 3), v30, (nt vs27 5), (nt vs27 6)], h28, l29⟩) fun j26 =>
 ob (rIdxS 1 (nt vs23 2) (nt vs23 4)) fun v31 =>
 ob (rLd1 h24.get v31) fun v32 =>
 ob (bI .geq v32 (.int .i64 0)) fun v33 =>
 gP (gd v33 true) (some v32) fun v34 =>
 gP (gd v33 true) (bI .lss v34 (.int .i64 65536)) fun v35 =>
 ob (rPick v33 v35 (.bool false)) fun v36 =>
 jn3 (fun vs38 h39 l40 =>
 j26 [(nt vs38 0), (nt vs38 1), (nt vs38 2), (nt vs38 3), (nt vs38 4), (nt vs38 5), (nt vs38 6)] h39 l40) fun j37 => fork v36
 (ob (bI .add v32 (.int .i64 1)) fun v41 =>
 hv (call (.fn N_bitmap_Map_add) [(nt vs23 1), v32, v41] h24) fun v42 h43 l44 =>
 j37 [(nt vs23 0), (nt vs23 1), (nt vs23 2), (nt vs23 3), (nt vs23 4), v34, v35] h43 (l44 ++ l25))
 (j37 [(nt vs23 0), (nt vs23 1), (nt vs23 2), (nt vs23 3), (nt vs23 4), v34, v35] h24 l25)) fun j22 => fork v21
 (j22 [(nt vs19 0), (nt vs19 1), (nt vs19 2), (nt vs19 3), (nt vs19 4), (nt vs19 5), (nt vs19 6)] h20 [])
 (some ⟨(.exit 0), [(nt vs19 0), (nt vs19 1), (nt vs19 2), (nt vs19 3), (nt vs19 4), (nt vs19 5), (nt vs19 6)], h20, []⟩)
noncomputable def F_bitmap_Of (call : CallF) (lp : LoopF) (x0 : Value) (h : H) : Option (Value × H × List Nat) :=
 al (aNew h.n T_bitmap_Map [(.slice none 0 0)]) h fun v0 h1 =>
 hv (call (.fn N_slices_Clone_int_int) [x0] h1) fun v2 h3 l4 =>
 hv (call (.fn N_slices_Sort_int_int) [v2] h3) fun v5 h6 l7 =>
 al (aNew h6.n T_bitmap_Map [(.slice none 0 0)]) h6 fun v8 h9 =>
 ob (rLenL v2) fun v10 =>
 jn3 (fun vs12 h13 l14 =>
 ob (rLdA h13.get 1 (nt vs12 1)) fun v15 =>
 hv (rStore h13 1 (nt vs12 0) v15) fun v16 h17 l18 =>
 fin h (rsK (rLdA h17.get 1 (nt vs12 0)) (some [])) h17 (l18 ++ l14)) fun j11 =>
 ob (lp (F_bitmap_Of_L506 call lp) [v0, v8, v2, v10, (.int .i64 0), poison, poison] h9) fun o45 =>
 onEx o45.ex (j11 [(nt o45.vs 0), (nt o45.vs 1)] o45.h (o45.lg ++ (l7 ++ (l4 ++ [])))) (fun i46 => bif Nat.beq i46 0 then j11 [(nt o45.vs 0), (nt o45.vs 1)] o45.h (o45.lg ++ (l7 ++ (l4 ++ []))) else none) (fin h (rsK (rLdA o45.h.get 1 (nt o45.vs 0)) (some [])) o45.h (o45.lg ++ (l7 ++ (l4 ++ []))))

-- 77 asterism/asterismlaw11.begun
noncomputable def F_asterismlaw11_begun (call : CallF) (lp : LoopF) (h : H) : Option (Value × H × List Nat) :=
 hv (call (.fn N_asterismlaw11_shop) [] h) fun v0 h1 l2 =>
 hv (call (.fn N_table_New) [v0] h1) fun v3 h4 l5 =>
 ob (binV pg.ty (tyD (.pointer 0)) .eql v3 (.pointer none)) fun v6 =>
 jn3 (fun vs8 h9 l10 =>
 hv (call (.fn N_asterismlaw11_row) [(.int .i64 7), (.string ⟨#[120]⟩)] h9) fun v11 h12 l13 =>
 hv (call (.fn N_table_Table_Insert) [(nt vs8 0), v11] h12) fun v14 h15 l16 =>
 ob (rExtract 0 v14) fun v17 =>
 ob (rExtract 1 v14) fun v18 =>
 hv (call (.fn N_asterismlaw11_row) [(.int .i64 8), (.string ⟨#[121]⟩)] h15) fun v19 h20 l21 =>
 hv (call (.fn N_table_Table_Insert) [(nt vs8 0), v19] h20) fun v22 h23 l24 =>
 ob (rExtract 0 v22) fun v25 =>
 ob (rExtract 1 v22) fun v26 =>
 hv (call (.fn N_table_Table_Insert) [(nt vs8 0), (.slice none 0 0)] h23) fun v27 h28 l29 =>
 ob (rExtract 0 v27) fun v30 =>
 ob (rExtract 1 v27) fun v31 =>
 hv (call (.fn N_table_Table_Delete) [(nt vs8 0), v17] h28) fun v32 h33 l34 =>
 ob (oBuild pg T_api_Value [(0, (.int .i64 2)), (2, (.string ⟨#[122]⟩))]) fun v35 =>
 hv (call (.fn N_table_Table_Set) [(nt vs8 0), v25, (.string ⟨#[122, 111, 110, 101]⟩), v35] h33) fun v36 h37 l38 =>
 hv (call (.fn N_table_Table_Row) [(nt vs8 0), v25] h37) fun v39 h40 l41 =>
 ob (rExtract 0 v39) fun v42 =>
 ob (rExtract 1 v39) fun v43 =>
 hv (call (.fn N_table_Table_Get) [(nt vs8 0), v25, (.string ⟨#[122, 111, 110, 101]⟩)] h40) fun v44 h45 l46 =>
 ob (rExtract 0 v44) fun v47 =>
 ob (rExtract 1 v44) fun v48 =>
 al (aNew h45.n T_api_Value [(.int .i64 0), (.int .i64 0), (.string ⟨#[]⟩)]) h45 fun v49 h50 =>
 hv (rStore h50 3 v49 v47) fun v51 h52 l53 =>
 hv (call (.fn N_table_Table_Copy) [(nt vs8 0)] h52) fun v54 h55 l56 =>
 ob (bI .eql v18 (.int .i64 0)) fun v57 =>
 gP (gd v57 true) (some v26) fun v58 =>
 gP (gd v57 true) (bI .eql v58 (.int .i64 0)) fun v59 =>
 ob (rPick v57 v59 (.bool false)) fun v60 =>
 gP (gd v60 true) (some v31) fun v61 =>
 gP (gd v60 true) (bI .eql v61 (.int .i64 1)) fun v62 =>
 ob (rPick v60 v62 (.bool false)) fun v63 =>
 gP (gd v63 true) (some v17) fun v64 =>
 gP (gd v63 true) (bI .eql v64 (.int .i64 0)) fun v65 =>
 ob (rPick v63 v65 (.bool false)) fun v66 =>
 gP (gd v66 true) (some v25) fun v67 =>
 gP (gd v66 true) (bI .eql v67 (.int .i64 1)) fun v68 =>
 ob (rPick v66 v68 (.bool false)) fun v69 =>
 gP (gd v69 true) (some v32) fun v70 =>
 ob (rPick v69 v70 (.bool false)) fun v71 =>
 gP (gd v71 true) (some v36) fun v72 =>
 gP (gd v71 true) (bI .eql v72 (.int .i64 0)) fun v73 =>
 ob (rPick v71 v73 (.bool false)) fun v74 =>
 gP (gd v74 true) (some v43) fun v75 =>
 ob (rPick v74 v75 (.bool false)) fun v76 =>
 gP (gd v76 true) (some v42) fun v77 =>
 gP (gd v76 true) (rLenL v77) fun v78 =>
 gP (gd v76 true) (bI .eql v78 (.int .i64 4)) fun v79 =>
 ob (rPick v76 v79 (.bool false)) fun v80 =>
 gP (gd v80 true) (rFld 2 v49) fun v81 =>
 gP (gd v80 true) (rLd1 h55.get v81) fun v82 =>
 gP (gd v80 true) (binV pg.ty (tyD .string) .eql v82 (.string ⟨#[122]⟩)) fun v83 =>
 ob (rPick v80 v83 (.bool false)) fun v84 =>
 gP (gd v84 true) (some v48) fun v85 =>
 ob (rPick v84 v85 (.bool false)) fun v86 =>
 gP (gd v86 true) (some (nt vs8 0)) fun v87 =>
 hv (gV (gd v86 true) (call (.fn N_table_Table_Next) [v87] h55) h55) fun v88 h89 l90 =>
 gP (gd v86 true) (bI .eql v88 (.int .i64 2)) fun v91 =>
 ob (rPick v86 v91 (.bool false)) fun v92 =>
 gP (gd v92 true) (some (nt vs8 0)) fun v93 =>
 hv (gV (gd v92 true) (call (.fn N_table_Table_Live) [v93] h89) h89) fun v94 h95 l96 =>
 hv (gV (gd v92 true) (call (.fn N_bitmap_Map_Count) [v94] h95) h95) fun v97 h98 l99 =>
 gP (gd v92 true) (bI .eql v97 (.int .i64 1)) fun v100 =>
 ob (rPick v92 v100 (.bool false)) fun v101 =>
 gP (gd v101 true) (some (nt vs8 0)) fun v102 =>
 hv (gV (gd v101 true) (call (.fn N_table_Table_Words) [v102, (.string ⟨#[99, 105, 116, 121]⟩)] h98) h98) fun v103 h104 l105 =>
 gP (gd v101 true) (bI .eql v103 (.int .i64 1)) fun v106 =>
 ob (rPick v101 v106 (.bool false)) fun v107 =>
 gP (gd v107 true) (some v54) fun v108 =>
 gP (gd v107 true) (binV pg.ty (tyD (.pointer 0)) .neq v108 (.pointer none)) fun v109 =>
 ob (rPick v107 v109 (.bool false)) fun v110 =>
 gP (gd v110 true) (some v54) fun v111 =>
 hv (gV (gd v110 true) (call (.fn N_table_Table_Next) [v111] h104) h104) fun v112 h113 l114 =>
 gP (gd v110 true) (bI .eql v112 (.int .i64 2)) fun v115 =>
 ob (rPick v110 v115 (.bool false)) fun v116 =>
 gP (gd v116 true) (some (nt vs8 0)) fun v117 =>
 hv (gV (gd v116 true) (call (.fn N_table_Table_Form) [v117] h113) h113) fun v118 h119 l120 =>
 gP (gd v116 true) (rPart1 0 v118) fun v121 =>
 gP (gd v116 true) (binV pg.ty (tyD .string) .eql v121 (.string ⟨#[115, 104, 111, 112]⟩)) fun v122 =>
 ob (rPick v116 v122 (.bool false)) fun v123 =>
 fin h (rsT v123 (some [])) h119 (l120 ++ (l114 ++ (l105 ++ (l99 ++ (l96 ++ (l90 ++ (l56 ++ (l53 ++ (l46 ++ (l41 ++ (l38 ++ (l34 ++ (l29 ++ (l24 ++ (l21 ++ (l16 ++ (l13 ++ l10)))))))))))))))))) fun j7 => fork v6
 (fin h (rsT (.bool false) (some [])) h4 (l5 ++ (l2 ++ [])))
 (j7 [v3, poison, poison, poison, poison, poison, poison, poison, poison, poison, poison, poison, poison, poison, poison, poison, poison, poison, poison, poison, poison, poison, poison, poison, poison, poison, poison, poison, poison, poison, poison, poison, poison, poison, poison, poison, poison, poison, poison] h4 (l5 ++ (l2 ++ [])))

-- 78 asterism/table.New
noncomputable def F_table_New_L122 (call : CallF) (lp : LoopF) : List Value → H → Option LOut := fun vs13 h14 =>
 ob (bI .lss (nt vs13 4) (nt vs13 3)) fun v15 =>
 jn3 (fun vs17 h18 l19 =>
 jn3 (fun vs21 h22 l23 =>
 ob (bI .add (nt vs21 4) (.int .i64 1)) fun v24 =>
 some ⟨.normal, [(nt vs21 0), (nt vs21 1), (nt vs21 2), (nt vs21 3), v24], h22, l23⟩) fun j20 =>
 ob (rIdxS 4 (nt vs17 2) (nt vs17 4)) fun v25 =>
 ob (rLdA h18.get 4 v25) fun v26 =>
 al (aNew h18.n T_api_Col [(.string ⟨#[]⟩), (.int .i64 0), (.bool false), (.string ⟨#[]⟩)]) h18 fun v27 h28 =>
 hv (rStore h28 4 v27 v26) fun v29 h30 l31 =>
 ob (rNil (nt vs17 1)) fun v32 =>
 ob (rFld 4 v32) fun v33 =>
 ob (rLd1 h30.get v33) fun v34 =>
 ob (rFld 1 v27) fun v35 =>
 ob (rLd1 h30.get v35) fun v36 =>
 hv (call (.fn N_column_New) [v36] h30) fun v37 h38 l39 =>
 al (aBuildS pg h38.n T_LPcolumn_Column 1 [(0, v37)]) h38 fun v40 h41 =>
 hv (rApp h41 T_Pcolumn_Column 1 8 [(.pointer none)] v34 v40) fun v42 h43 l44 =>
 ob (rNil (nt vs17 1)) fun v45 =>
 ob (rFld 4 v45) fun v46 =>
 hv (rStore h43 1 v46 v42) fun v47 h48 l49 =>
 dr [0, 0, 2, 6, 14, 0, 32, 96, 224, 510, 1023, 2047, 4095] [mP h30, mP h30, mP h30, mP h30, mR h30 (rdP v33), mP h30, mR h30 (rdP v35), mH h30 (rdL [v36]) l39 h38, mA h38 [], mH h41 (rdL [v34, v40]) l44 h43, mP h43, mP h43, mH h43 [] l49 h48] fun l50 =>
 j20 [(nt vs17 0), (nt vs17 1), (nt vs17 2), (nt vs17 3), (nt vs17 4)] h48 (l50 ++ (l31 ++ l19))) fun j16 => fork v15
 (j16 [(nt vs13 0), (nt vs13 1), (nt vs13 2), (nt vs13 3), (nt vs13 4)] h14 [])
 (some ⟨(.exit 0), [(nt vs13 0), (nt vs13 1), (nt vs13 2), (nt vs13 3), (nt vs13 4)], h14, []⟩)
noncomputable def F_table_New (call : CallF) (lp : LoopF) (x0 : Value) (h : H) : Option (Value × H × List Nat) :=
 al (aBx h.n T_api_Table 4 x0) h fun v0 h1 =>
 ob (rLdA h1.get 4 v0) fun v2 =>
 ob (oBuild pg T_table_Table [(0, v2)]) fun v3 =>
 al (aBx h1.n T_table_Table 7 v3) h1 fun v4 h5 =>
 ob (rFld 1 v0) fun v6 =>
 ob (rLd1 h5.get v6) fun v7 =>
 ob (rLenL v7) fun v8 =>
 jn3 (fun vs10 h11 l12 =>
 fin h (rsT (nt vs10 0) (some [])) h11 l12) fun j9 =>
 ob (lp (F_table_New_L122 call lp) [(.pointer none), v4, v7, v8, (.int .i64 0)] h5) fun o51 =>
 onEx o51.ex (j9 [(nt o51.vs 1)] o51.h (o51.lg ++ [])) (fun i52 => bif Nat.beq i52 0 then j9 [(nt o51.vs 1)] o51.h (o51.lg ++ []) else none) (fin h (rsT (nt o51.vs 0) (some [])) o51.h (o51.lg ++ []))

-- 79 (asterism/asterismref8.Schema).May
noncomputable def F_asterismref8_Schema_May_L506 (call : CallF) (lp : LoopF) : List Value → H → Option LOut := fun vs40 h41 =>
 ob (rFld 1 (nt vs40 1)) fun v42 =>
 ob (rLd1 h41.get v42) fun v43 =>
 ob (rLenL v43) fun v44 =>
 ob (bI .lss (nt vs40 3) v44) fun v45 =>
 jn3 (fun vs47 h48 l49 =>
 jn3 (fun vs51 h52 l53 =>
 ob (bI .add (nt vs51 3) (.int .i64 1)) fun v54 =>
 some ⟨.normal, [(nt vs51 0), (nt vs51 1), (nt vs51 2), v54], h52, l53⟩) fun j50 =>
 ob (rFld 1 (nt vs47 1)) fun v55 =>
 ob (rLd1 h48.get v55) fun v56 =>
 ob (rIdxS 4 v56 (nt vs47 3)) fun v57 =>
 ob (rFld 3 v57) fun v58 =>
 ob (rLd1 h48.get v58) fun v59 =>
 ob (binV pg.ty (tyD .string) .eql v59 (.string ⟨#[]⟩)) fun v60 =>
 jn3 (fun vs62 h63 l64 =>
 ob (rFld 1 (nt vs62 1)) fun v65 =>
 ob (rLd1 h63.get v65) fun v66 =>
 ob (rIdxS 4 v66 (nt vs62 3)) fun v67 =>
 ob (rFld 3 v67) fun v68 =>
 ob (rLd1 h63.get v68) fun v69 =>
 hv (call (.fn N_asterismref8_Schema_Find) [(nt vs62 0), v69] h63) fun v70 h71 l72 =>
 ob (bI .lss v70 (.int .i64 0)) fun v73 =>
 jn3 (fun vs75 h76 l77 =>
 ob (rIdxS 4 (nt vs75 0) (nt vs75 4)) fun v78 =>
 ob (rFld 2 v78) fun v79 =>
 ob (rLd1 h76.get v79) fun v80 =>
 ob (binV pg.ty (tyD .string) .eql v80 (.string ⟨#[]⟩)) fun v81 =>
 jn3 (fun vs83 h84 l85 =>
 ob (rIdxS 4 (nt vs83 0) (nt vs83 4)) fun v86 =>
 ob (rFld 1 v86) fun v87 =>
 ob (rLd1 h84.get v87) fun v88 =>
 ob (rIdxS 4 (nt vs83 0) (nt vs83 4)) fun v89 =>
 ob (rLdA h84.get 4 v89) fun v90 =>
 ob (rIdxS 4 (nt vs83 0) (nt vs83 4)) fun v91 =>
 ob (rFld 2 v91) fun v92 =>
 ob (rLd1 h84.get v92) fun v93 =>
 hv (call (.fn N_asterismref8_ColOf) [v90, v93] h84) fun v94 h95 l96 =>
 ob (rIdxS 4 v88 v94) fun v97 =>
 ob (rFld 1 v97) fun v98 =>
 ob (rLd1 h95.get v98) fun v99 =>
 ob (rFld 1 (nt vs83 1)) fun v100 =>
 ob (rLd1 h95.get v100) fun v101 =>
 ob (rIdxS 4 v101 (nt vs83 3)) fun v102 =>
 ob (rFld 1 v102) fun v103 =>
 ob (rLd1 h95.get v103) fun v104 =>
 ob (bI .neq v99 v104) fun v105 =>
 dr [0, 0, 3, 7, 15, 0, 0, 96, 224, 0, 0, 1536, 3584, 7680, 16352, 32767, 65535, 131071, 0, 262144, 0, 1835008, 3932160, 8126464, 16777215] [mP h84, mP h84, mP h84, mP h84, mR h84 (rdP v87), mP h84, mP h84, mP h84, mR h84 (rdP v89), mP h84, mP h84, mP h84, mP h84, mR h84 (rdP v92), mH h84 (rdL [v90, v93]) l96 h95, mP h95, mP h95, mR h95 (rdP v98), mP h95, mR h95 (rdP v100), mP h95, mP h95, mP h95, mR h95 (rdP v103), mP h95] fun l106 =>
 jn3 (fun vs108 h109 l110 =>
 j50 [(nt vs108 0), (nt vs108 1), (nt vs108 2), (nt vs108 3)] h109 l110) fun j107 => fork v105
 (some ⟨.ret, [(nt vs83 0), (nt vs83 1), (.int .i64 4), (nt vs83 3)], h95, (l106 ++ l85)⟩)
 (j107 [(nt vs83 0), (nt vs83 1), (nt vs83 2), (nt vs83 3)] h95 (l106 ++ l85))) fun j82 => fork v81
 (some ⟨.ret, [(nt vs75 0), (nt vs75 1), (.int .i64 9), (nt vs75 3)], h76, l77⟩)
 (j82 [(nt vs75 0), (nt vs75 1), (nt vs75 2), (nt vs75 3), (nt vs75 4)] h76 l77)) fun j74 => fork v73
 (some ⟨.ret, [(nt vs62 0), (nt vs62 1), (.int .i64 3), (nt vs62 3)], h71, (l72 ++ l64)⟩)
 (j74 [(nt vs62 0), (nt vs62 1), (nt vs62 2), (nt vs62 3), v70] h71 (l72 ++ l64))) fun j61 => fork v60
 (j50 [(nt vs47 0), (nt vs47 1), (nt vs47 2), (nt vs47 3)] h48 l49)
 (j61 [(nt vs47 0), (nt vs47 1), (nt vs47 2), (nt vs47 3)] h48 l49)) fun j46 => fork v45
 (j46 [(nt vs40 0), (nt vs40 1), (nt vs40 2), (nt vs40 3)] h41 [])
 (some ⟨(.exit 2), [(nt vs40 0), (nt vs40 1), (nt vs40 2), (nt vs40 3)], h41, []⟩)
noncomputable def F_asterismref8_Schema_May_L250 (call : CallF) (lp : LoopF) : List Value → H → Option LOut := fun vs113 h114 =>
 ob (rFld 1 (nt vs113 1)) fun v115 =>
 ob (rLd1 h114.get v115) fun v116 =>
 ob (rLenL v116) fun v117 =>
 ob (bI .lss (nt vs113 3) v117) fun v118 =>
 jn3 (fun vs120 h121 l122 =>
 jn3 (fun vs124 h125 l126 =>
 ob (bI .add (nt vs124 3) (.int .i64 1)) fun v127 =>
 some ⟨.normal, [(nt vs124 0), (nt vs124 1), (nt vs124 2), v127, (nt vs124 4), (nt vs124 5), (nt vs124 6), (nt vs124 7), (nt vs124 8), (nt vs124 9), (nt vs124 10)], h125, l126⟩) fun j123 =>
 ob (rFld 1 (nt vs120 1)) fun v128 =>
 ob (rLd1 h121.get v128) fun v129 =>
 ob (rIdxS 4 v129 (nt vs120 3)) fun v130 =>
 ob (rFld 1 v130) fun v131 =>
 ob (rLd1 h121.get v131) fun v132 =>
 ob (bI .neq v132 (.int .i64 1)) fun v133 =>
 gP (gd v133 true) (rFld 1 (nt vs120 1)) fun v134 =>
 gP (gd v133 true) (rLd1 h121.get v134) fun v135 =>
 gP (gd v133 true) (some (nt vs120 3)) fun v136 =>
 gP (gd v133 true) (rIdxS 4 v135 v136) fun v137 =>
 gP (gd v133 true) (rFld 1 v137) fun v138 =>
 gP (gd v133 true) (rLd1 h121.get v138) fun v139 =>
 gP (gd v133 true) (bI .neq v139 (.int .i64 2)) fun v140 =>
 ob (rPick v133 v140 (.bool false)) fun v141 =>
 jn3 (fun vs143 h144 l145 =>
 j123 [(nt vs143 0), (nt vs143 1), (nt vs143 2), (nt vs143 3), (nt vs143 4), (nt vs143 5), (nt vs143 6), (nt vs143 7), (nt vs143 8), (nt vs143 9), (nt vs143 10)] h144 l145) fun j142 => fork v141
 (some ⟨.ret, [(nt vs120 0), (nt vs120 1), (.int .i64 4), (nt vs120 3), v134, v135, v136, v137, v138, v139, v140], h121, l122⟩)
 (j142 [(nt vs120 0), (nt vs120 1), (nt vs120 2), (nt vs120 3), v134, v135, v136, v137, v138, v139, v140] h121 l122)) fun j119 => fork v118
 (j119 [(nt vs113 0), (nt vs113 1), (nt vs113 2), (nt vs113 3), (nt vs113 4), (nt vs113 5), (nt vs113 6), (nt vs113 7), (nt vs113 8), (nt vs113 9), (nt vs113 10)] h114 [])
 (some ⟨(.exit 0), [(nt vs113 0), (nt vs113 1), (nt vs113 2), (nt vs113 3), (nt vs113 4), (nt vs113 5), (nt vs113 6), (nt vs113 7), (nt vs113 8), (nt vs113 9), (nt vs113 10)], h114, []⟩)
noncomputable def F_asterismref8_Schema_May (call : CallF) (lp : LoopF) (x0 : Value) (x1 : Value) (h : H) : Option (Value × H × List Nat) :=
 al (aBx h.n T_api_Table 4 x1) h fun v0 h1 =>
 ob (rLenL x0) fun v2 =>
 ob (bI .geq v2 (.int .i64 8)) fun v3 =>
 gP (gd v3 false) (rFld 1 v0) fun v4 =>
 gP (gd v3 false) (rLd1 h1.get v4) fun v5 =>
 gP (gd v3 false) (rLenL v5) fun v6 =>
 gP (gd v3 false) (bI .lss v6 (.int .i64 1)) fun v7 =>
 ob (rPick v3 (.bool true) v7) fun v8 =>
 gP (gd v8 false) (rFld 1 v0) fun v9 =>
 gP (gd v8 false) (rLd1 h1.get v9) fun v10 =>
 gP (gd v8 false) (rLenL v10) fun v11 =>
 gP (gd v8 false) (bI .gtr v11 (.int .i64 6)) fun v12 =>
 ob (rPick v8 (.bool true) v12) fun v13 =>
 gP (gd v13 false) (rFld 3 v0) fun v14 =>
 gP (gd v13 false) (rLd1 h1.get v14) fun v15 =>
 gP (gd v13 false) (rLenL v15) fun v16 =>
 gP (gd v13 false) (bI .gtr v16 (.int .i64 3)) fun v17 =>
 ob (rPick v13 (.bool true) v17) fun v18 =>
 jn3 (fun vs20 h21 l22 =>
 ob (rLdA h21.get 4 (nt vs20 1)) fun v23 =>
 hv (call (.fn N_asterismref8_names) [(nt vs20 0), v23] h21) fun v24 h25 l26 =>
 ob (unV .not v24) fun v27 =>
 jn3 (fun vs29 h30 l31 =>
 jn3 (fun vs33 h34 l35 =>
 jn3 (fun vs37 h38 l39 =>
 fin h (rsT (.int .i64 0) (some [])) h38 l39) fun j36 =>
 ob (lp (F_asterismref8_Schema_May_L506 call lp) [(nt vs33 0), (nt vs33 1), (nt vs33 2), (.int .i64 0)] h34) fun o111 =>
 onEx o111.ex (j36 [] o111.h (o111.lg ++ l35)) (fun i112 => bif Nat.beq i112 2 then j36 [] o111.h (o111.lg ++ l35) else none) (fin h (rsT (nt o111.vs 2) (some [])) o111.h (o111.lg ++ l35))) fun j32 =>
 ob (lp (F_asterismref8_Schema_May_L250 call lp) [(nt vs29 0), (nt vs29 1), (nt vs29 2), (.int .i64 0), (nt vs29 3), (nt vs29 4), (nt vs29 5), (nt vs29 6), (nt vs29 7), (nt vs29 8), (nt vs29 9)] h30) fun o146 =>
 onEx o146.ex (j32 [(nt o146.vs 0), (nt o146.vs 1), (nt o146.vs 2)] o146.h (o146.lg ++ l31)) (fun i147 => bif Nat.beq i147 0 then j32 [(nt o146.vs 0), (nt o146.vs 1), (nt o146.vs 2)] o146.h (o146.lg ++ l31) else none) (fin h (rsT (nt o146.vs 2) (some [])) o146.h (o146.lg ++ l31))) fun j28 => fork v27
 (fin h (rsT (.int .i64 3) (some [])) h25 (l26 ++ l22))
 (j28 [(nt vs20 0), (nt vs20 1), (nt vs20 2), (nt vs20 3), (nt vs20 4), (nt vs20 5), (nt vs20 6), (nt vs20 7), (nt vs20 8), (nt vs20 9)] h25 (l26 ++ l22))) fun j19 => fork v18
 (fin h (rsT (.int .i64 5) (some [])) h1 [])
 (j19 [x0, v0, (.int .i64 0), poison, poison, poison, poison, poison, poison, poison] h1 [])

-- 80 asterism/asterismref8.Form
noncomputable def F_asterismref8_Form_L122 (call : CallF) (lp : LoopF) : List Value → H → Option LOut := fun vs21 h22 =>
 ob (rFld 1 (nt vs21 0)) fun v23 =>
 ob (rLd1 h22.get v23) fun v24 =>
 ob (rLenL v24) fun v25 =>
 ob (bI .lss (nt vs21 2) v25) fun v26 =>
 jn3 (fun vs28 h29 l30 =>
 jn3 (fun vs32 h33 l34 =>
 ob (bI .add (nt vs32 2) (.int .i64 1)) fun v35 =>
 some ⟨.normal, [(nt vs32 0), (nt vs32 1), v35], h33, l34⟩) fun j31 =>
 ob (rFld 1 (nt vs28 0)) fun v36 =>
 ob (rLd1 h29.get v36) fun v37 =>
 ob (rIdxS 4 v37 (nt vs28 2)) fun v38 =>
 ob (rFld 0 v38) fun v39 =>
 ob (rLd1 h29.get v39) fun v40 =>
 ob (rFld 2 (nt vs28 0)) fun v41 =>
 ob (rLd1 h29.get v41) fun v42 =>
 ob (binV pg.ty (tyD .string) .eql v40 v42) fun v43 =>
 dr [0, 1, 0, 7, 15, 31, 0, 64, 255] [mP h29, mR h29 (rdP v36), mP h29, mP h29, mP h29, mR h29 (rdP v39), mP h29, mR h29 (rdP v41), mP h29] fun l44 =>
 jn3 (fun vs46 h47 l48 =>
 j31 [(nt vs46 0), (nt vs46 1), (nt vs46 2)] h47 l48) fun j45 => fork v43
 (ob (rFld 1 (nt vs28 0)) fun v49 =>
 ob (rLd1 h29.get v49) fun v50 =>
 ob (rIdxS 4 v50 (nt vs28 2)) fun v51 =>
 ob (rFld 2 v51) fun v52 =>
 hv (rStore h29 1 v52 (.bool true)) fun v53 h54 l55 =>
 j45 [(nt vs28 0), (nt vs28 1), (nt vs28 2)] h54 (l55 ++ (l44 ++ l30)))
 (j45 [(nt vs28 0), (nt vs28 1), (nt vs28 2)] h29 (l44 ++ l30))) fun j27 => fork v26
 (j27 [(nt vs21 0), (nt vs21 1), (nt vs21 2)] h22 [])
 (some ⟨(.exit 0), [(nt vs21 0), (nt vs21 1), (nt vs21 2)], h22, []⟩)
noncomputable def F_asterismref8_Form (call : CallF) (lp : LoopF) (x0 : Value) (h : H) : Option (Value × H × List Nat) :=
 al (aBx h.n T_api_Table 4 x0) h fun v0 h1 =>
 al (aNew h1.n T_api_Table [(.string ⟨#[]⟩), (.slice none 0 0), (.string ⟨#[]⟩), (.slice none 0 0)]) h1 fun v2 h3 =>
 ob (rFld 1 v0) fun v4 =>
 ob (rLd1 h3.get v4) fun v5 =>
 hv (rApp h3 T_api_Col 4 48 [(.string ⟨#[]⟩), (.int .i64 0), (.bool false), (.string ⟨#[]⟩)] (.slice none 0 0) v5) fun v6 h7 l8 =>
 ob (rFld 1 v0) fun v9 =>
 hv (rStore h7 1 v9 v6) fun v10 h11 l12 =>
 jn3 (fun vs14 h15 l16 =>
 ob (rLdA h15.get 4 (nt vs14 0)) fun v17 =>
 hv (rStore h15 4 (nt vs14 1) v17) fun v18 h19 l20 =>
 fin h (rsK (rLdA h19.get 4 (nt vs14 1)) (some [])) h19 (l20 ++ l16)) fun j13 =>
 ob (lp (F_asterismref8_Form_L122 call lp) [v0, v2, (.int .i64 0)] h11) fun o56 =>
 onEx o56.ex (j13 [(nt o56.vs 0), (nt o56.vs 1)] o56.h (o56.lg ++ (l12 ++ (l8 ++ [])))) (fun i57 => bif Nat.beq i57 0 then j13 [(nt o56.vs 0), (nt o56.vs 1)] o56.h (o56.lg ++ (l12 ++ (l8 ++ []))) else none) (fin h (rsK (rLdA o56.h.get 4 (nt o56.vs 1)) (some [])) o56.h (o56.lg ++ (l12 ++ (l8 ++ []))))

-- 82 asterism/bitmap.Without
noncomputable def F_bitmap_Without (call : CallF) (lp : LoopF) (x0 : Value) (x1 : Value) (h : H) : Option (Value × H × List Nat) :=
 al (aBx h.n T_bitmap_Map 1 x0) h fun v0 h1 =>
 al (aBx h1.n T_bitmap_Map 1 x1) h1 fun v2 h3 =>
 al (aNew h3.n T_bitmap_Map [(.slice none 0 0)]) h3 fun v4 h5 =>
 ob (rLdA h5.get 1 v0) fun v6 =>
 ob (rLdA h5.get 1 v2) fun v7 =>
 hv (call (.fn N_bitmap_Not) [v7, (.int .i64 65536)] h5) fun v8 h9 l10 =>
 hv (call (.fn N_bitmap_And) [v6, v8] h9) fun v11 h12 l13 =>
 hv (rStore h12 1 v4 v11) fun v14 h15 l16 =>
 dr [0, 0, 2, 7, 15] [mR h5 (rdP v0), mR h5 (rdP v2), mH h5 (rdL [v7, (.int .i64 65536)]) l10 h9, mH h9 (rdL [v6, v8]) l13 h12, mH h12 [] l16 h15] fun l17 =>
 fin h (rsK (rLdA h15.get 1 v4) (some [])) h15 (l17 ++ [])

-- 83 (*asterism/column.Column).Set
noncomputable def F_column_Column_Set (call : CallF) (lp : LoopF) (x0 : Value) (x1 : Value) (x2 : Value) (h : H) : Option (Value × H × List Nat) :=
 al (aBx h.n T_api_Value 3 x2) h fun v0 h1 =>
 ob (rLdA h1.get 3 v0) fun v2 =>
 hv (call (.fn N_column_Column_may) [x0, v2] h1) fun v3 h4 l5 =>
 ob (unV .not v3) fun v6 =>
 gP (gd v6 false) (some x1) fun v7 =>
 gP (gd v6 false) (bI .lss v7 (.int .i64 0)) fun v8 =>
 ob (rPick v6 (.bool true) v8) fun v9 =>
 gP (gd v9 false) (some x1) fun v10 =>
 gP (gd v9 false) (some x0) fun v11 =>
 gP (gd v9 false) (rNil v11) fun v12 =>
 gP (gd v9 false) (rFld 1 v12) fun v13 =>
 gP (gd v9 false) (rLd1 h4.get v13) fun v14 =>
 gP (gd v9 false) (rLenL v14) fun v15 =>
 gP (gd v9 false) (bI .geq v10 v15) fun v16 =>
 ob (rPick v9 (.bool true) v16) fun v17 =>
 jn3 (fun vs19 h20 l21 =>
 ob (rNil (nt vs19 0)) fun v22 =>
 ob (rFld 1 v22) fun v23 =>
 ob (rLd1 h20.get v23) fun v24 =>
 ob (rIdxS 3 v24 (nt vs19 1)) fun v25 =>
 ob (rLdA h20.get 3 v25) fun v26 =>
 al (aNew h20.n T_api_Value [(.int .i64 0), (.int .i64 0), (.string ⟨#[]⟩)]) h20 fun v27 h28 =>
 hv (rStore h28 3 v27 v26) fun v29 h30 l31 =>
 ob (rFld 0 v27) fun v32 =>
 ob (rLd1 h30.get v32) fun v33 =>
 jn3 (fun vs35 h36 l37 =>
 ob (rNil (nt vs35 0)) fun v38 =>
 ob (rFld 1 v38) fun v39 =>
 ob (rLd1 h36.get v39) fun v40 =>
 ob (rLdA h36.get 3 (nt vs35 2)) fun v41 =>
 ob (rIdxS 3 v40 (nt vs35 1)) fun v42 =>
 hv (rStore h36 3 v42 v41) fun v43 h44 l45 =>
 dr [0, 1, 3, 7, 0, 0, 63, 127] [mP h36, mP h36, mP h36, mR h36 (rdP v39), mP h36, mR h36 (rdP (nt vs35 2)), mP h36, mH h36 [] l45 h44] fun l46 =>
 ob (rLdA h44.get 3 (nt vs35 2)) fun v47 =>
 hv (call (.fn N_column_Column_count) [(nt vs35 0), v47] h44) fun v48 h49 l50 =>
 fin h (rsT (.bool true) (some [])) h49 (l50 ++ (l46 ++ l37))) fun j34 =>
 ob (bI .eql v33 (.int .i64 0)) fun v51 =>
 jn3 (fun vs53 h54 l55 =>
 j34 [(nt vs53 0), (nt vs53 1), (nt vs53 2)] h54 l55) fun j52 => fork v51
 (ob (rNil (nt vs19 0)) fun v56 =>
 ob (rFld 3 v56) fun v57 =>
 ob (rLd1 h30.get v57) fun v58 =>
 ob (bI .sub v58 (.int .i64 1)) fun v59 =>
 ob (rNil (nt vs19 0)) fun v60 =>
 ob (rFld 3 v60) fun v61 =>
 hv (rStore h30 1 v61 v59) fun v62 h63 l64 =>
 j52 [(nt vs19 0), (nt vs19 1), (nt vs19 2)] h63 (l64 ++ (l31 ++ l21)))
 (ob (bI .eql v33 (.int .i64 2)) fun v65 =>
 jn3 (fun vs67 h68 l69 =>
 j52 [(nt vs67 0), (nt vs67 1), (nt vs67 2)] h68 l69) fun j66 => fork v65
 (ob (rNil (nt vs19 0)) fun v70 =>
 ob (rFld 2 v70) fun v71 =>
 ob (rFld 2 v27) fun v72 =>
 ob (rLd1 h30.get v72) fun v73 =>
 hv (call (.fn N_dict_Dict_Take) [v71, v73] h30) fun v74 h75 l76 =>
 dr [0, 1, 3, 0, 8, 31] [mP h30, mP h30, mP h30, mP h30, mR h30 (rdP v72), mH h30 (rdL [v71, v73]) l76 h75] fun l77 =>
 j66 [(nt vs19 0), (nt vs19 1), (nt vs19 2)] h75 (l77 ++ (l31 ++ l21)))
 (j66 [(nt vs19 0), (nt vs19 1), (nt vs19 2)] h30 (l31 ++ l21)))) fun j18 => fork v17
 (fin h (rsT (.bool false) (some [])) h4 (l5 ++ []))
 (j18 [x0, x1, v0] h4 (l5 ++ []))

-- 84 (*asterism/table.Table).col
noncomputable def F_table_Table_col (call : CallF) (lp : LoopF) (x0 : Value) (x1 : Value) (h : H) : Option (Value × H × List Nat) :=
 al (aBx h.n T_string 1 x1) h fun v0 h1 =>
 ob (binV pg.ty (tyD (.pointer 0)) .eql x0 (.pointer none)) fun v2 =>
 jn3 (fun vs4 h5 l6 =>
 ob (rNil (nt vs4 0)) fun v7 =>
 ob (rFld 0 v7) fun v8 =>
 ob (rFld 1 v8) fun v9 =>
 ob (rLd1 h5.get v9) fun v10 =>
 ob (oFunc N_table_Table_col_1 #[] #[(nt vs4 1)]) fun v11 =>
 hv (call (.fn N_slices_IndexFunc_api_Col_api_Col) [v10, v11] h5) fun v12 h13 l14 =>
 fin h (rsT v12 (some [])) h13 (l14 ++ l6)) fun j3 => fork v2
 (fin h (rsT (.int .i64 (-1)) (some [])) h1 [])
 (j3 [x0, v0] h1 [])

-- 85 slices.IndexFunc[[]asterism/api.Table,asterism/api.Table]
noncomputable def F_slices_IndexFunc_api_Table_api_Table_L58 (call : CallF) (lp : LoopF) : List Value → H → Option LOut := fun vs5 h6 =>
 ob (bI .lss (nt vs5 4) (nt vs5 3)) fun v7 =>
 jn3 (fun vs9 h10 l11 =>
 jn3 (fun vs13 h14 l15 =>
 ob (bI .add (nt vs13 4) (.int .i64 1)) fun v16 =>
 some ⟨.normal, [(nt vs13 0), (nt vs13 1), (nt vs13 2), (nt vs13 3), v16], h14, l15⟩) fun j12 =>
 ob (rIdxS 4 (nt vs9 0) (nt vs9 4)) fun v17 =>
 ob (rLdA h10.get 4 v17) fun v18 =>
 hv (callV call h10 (nt vs9 1) [v18]) fun v19 h20 l21 =>
 jn3 (fun vs23 h24 l25 =>
 j12 [(nt vs23 0), (nt vs23 1), (nt vs23 2), (nt vs23 3), (nt vs23 4)] h24 l25) fun j22 => fork v19
 (some ⟨.ret, [(nt vs9 0), (nt vs9 1), (nt vs9 4), (nt vs9 3), (nt vs9 4)], h20, (l21 ++ l11)⟩)
 (j22 [(nt vs9 0), (nt vs9 1), (nt vs9 2), (nt vs9 3), (nt vs9 4)] h20 (l21 ++ l11))) fun j8 => fork v7
 (j8 [(nt vs5 0), (nt vs5 1), (nt vs5 2), (nt vs5 3), (nt vs5 4)] h6 [])
 (some ⟨(.exit 0), [(nt vs5 0), (nt vs5 1), (nt vs5 2), (nt vs5 3), (nt vs5 4)], h6, []⟩)
noncomputable def F_slices_IndexFunc_api_Table_api_Table (call : CallF) (lp : LoopF) (x0 : Value) (x1 : Value) (h : H) : Option (Value × H × List Nat) :=
 ob (rLenL x0) fun v0 =>
 jn3 (fun vs2 h3 l4 =>
 fin h (rsT (.int .i64 (-1)) (some [])) h3 l4) fun j1 =>
 ob (lp (F_slices_IndexFunc_api_Table_api_Table_L58 call lp) [x0, x1, (.int .i64 0), v0, (.int .i64 0)] h) fun o26 =>
 onEx o26.ex (j1 [] o26.h (o26.lg ++ [])) (fun i27 => bif Nat.beq i27 0 then j1 [] o26.h (o26.lg ++ []) else none) (fin h (rsT (nt o26.vs 2) (some [])) o26.h (o26.lg ++ []))

-- 86 (*asterism/schema.Schema).Find$1
noncomputable def F_schema_Schema_Find_1 (call : CallF) (lp : LoopF) (x0 : Value) (x1 : Value) (h : H) : Option (Value × H × List Nat) :=
 al (aBx h.n T_api_Table 4 x0) h fun v0 h1 =>
 ob (rFld 0 v0) fun v2 =>
 ob (rLd1 h1.get v2) fun v3 =>
 ob (rLd1 h1.get x1) fun v4 =>
 ob (binV pg.ty (tyD .string) .eql v3 v4) fun v5 =>
 fin h (rsT v5 (some [])) h1 []

-- 87 asterism/schema.copied
noncomputable def F_schema_copied_L250 (call : CallF) (lp : LoopF) : List Value → H → Option LOut := fun vs33 h34 =>
 ob (bI .lss (nt vs33 3) (nt vs33 2)) fun v35 =>
 jn3 (fun vs37 h38 l39 =>
 jn3 (fun vs41 h42 l43 =>
 ob (bI .add (nt vs41 3) (.int .i64 1)) fun v44 =>
 some ⟨.normal, [(nt vs41 0), (nt vs41 1), (nt vs41 2), v44], h42, l43⟩) fun j40 =>
 ob (rFld 3 (nt vs37 0)) fun v45 =>
 ob (rLd1 h38.get v45) fun v46 =>
 ob (rFld 3 (nt vs37 0)) fun v47 =>
 ob (rLd1 h38.get v47) fun v48 =>
 ob (rIdxS 2 v48 (nt vs37 3)) fun v49 =>
 ob (rFld 0 v49) fun v50 =>
 ob (rLd1 h38.get v50) fun v51 =>
 hv (call (.fn N_slices_Clone_string_string) [v51] h38) fun v52 h53 l54 =>
 ob (rIdxS 2 v46 (nt vs37 3)) fun v55 =>
 ob (rFld 0 v55) fun v56 =>
 hv (rStore h53 1 v56 v52) fun v57 h58 l59 =>
 dr [0, 1, 0, 0, 8, 0, 56, 120, 248, 504, 1023, 2047, 4095] [mP h38, mR h38 (rdP v45), mP h38, mP h38, mR h38 (rdP v47), mP h38, mP h38, mP h38, mR h38 (rdP v50), mH h38 (rdL [v51]) l54 h53, mP h53, mP h53, mH h53 [] l59 h58] fun l60 =>
 j40 [(nt vs37 0), (nt vs37 1), (nt vs37 2), (nt vs37 3)] h58 (l60 ++ l39)) fun j36 => fork v35
 (j36 [(nt vs33 0), (nt vs33 1), (nt vs33 2), (nt vs33 3)] h34 [])
 (some ⟨(.exit 0), [(nt vs33 0), (nt vs33 1), (nt vs33 2), (nt vs33 3)], h34, []⟩)
noncomputable def F_schema_copied (call : CallF) (lp : LoopF) (x0 : Value) (h : H) : Option (Value × H × List Nat) :=
 al (aBx h.n T_api_Table 4 x0) h fun v0 h1 =>
 al (aNew h1.n T_api_Table [(.string ⟨#[]⟩), (.slice none 0 0), (.string ⟨#[]⟩), (.slice none 0 0)]) h1 fun v2 h3 =>
 ob (rFld 1 v0) fun v4 =>
 ob (rLd1 h3.get v4) fun v5 =>
 hv (call (.fn N_slices_Clone_api_Col_api_Col) [v5] h3) fun v6 h7 l8 =>
 ob (rFld 1 v0) fun v9 =>
 hv (rStore h7 1 v9 v6) fun v10 h11 l12 =>
 ob (rFld 3 v0) fun v13 =>
 ob (rLd1 h11.get v13) fun v14 =>
 hv (call (.fn N_slices_Clone_api_Dep_api_Dep) [v14] h11) fun v15 h16 l17 =>
 ob (rFld 3 v0) fun v18 =>
 hv (rStore h16 1 v18 v15) fun v19 h20 l21 =>
 ob (rFld 3 v0) fun v22 =>
 ob (rLd1 h20.get v22) fun v23 =>
 ob (rLenL v23) fun v24 =>
 jn3 (fun vs26 h27 l28 =>
 ob (rLdA h27.get 4 (nt vs26 0)) fun v29 =>
 hv (rStore h27 4 (nt vs26 1) v29) fun v30 h31 l32 =>
 fin h (rsK (rLdA h31.get 4 (nt vs26 1)) (some [])) h31 (l32 ++ l28)) fun j25 =>
 ob (lp (F_schema_copied_L250 call lp) [v0, v2, v24, (.int .i64 0)] h20) fun o61 =>
 onEx o61.ex (j25 [(nt o61.vs 0), (nt o61.vs 1)] o61.h (o61.lg ++ (l21 ++ (l17 ++ (l12 ++ (l8 ++ [])))))) (fun i62 => bif Nat.beq i62 0 then j25 [(nt o61.vs 0), (nt o61.vs 1)] o61.h (o61.lg ++ (l21 ++ (l17 ++ (l12 ++ (l8 ++ []))))) else none) (fin h (rsK (rLdA o61.h.get 4 (nt o61.vs 1)) (some [])) o61.h (o61.lg ++ (l21 ++ (l17 ++ (l12 ++ (l8 ++ []))))))

-- 88 (*asterism/schema.Schema).named
noncomputable def F_schema_Schema_named_L250 (call : CallF) (lp : LoopF) : List Value → H → Option LOut := fun vs57 h58 =>
 ob (bI .lss (nt vs57 5) (nt vs57 4)) fun v59 =>
 jn3 (fun vs61 h62 l63 =>
 jn3 (fun vs65 h66 l67 =>
 ob (bI .add (nt vs65 5) (.int .i64 1)) fun v68 =>
 some ⟨.normal, [(nt vs65 0), (nt vs65 1), (nt vs65 2), (nt vs65 3), (nt vs65 4), v68, (nt vs65 6), (nt vs65 7), (nt vs65 8), (nt vs65 9), (nt vs65 10)], h66, l67⟩) fun j64 =>
 ob (rIdxS 4 (nt vs61 3) (nt vs61 5)) fun v69 =>
 ob (rLdA h62.get 4 v69) fun v70 =>
 al (aNew h62.n T_api_Col [(.string ⟨#[]⟩), (.int .i64 0), (.bool false), (.string ⟨#[]⟩)]) h62 fun v71 h72 =>
 hv (rStore h72 4 v71 v70) fun v73 h74 l75 =>
 ob (rFld 0 v71) fun v76 =>
 ob (rLd1 h74.get v76) fun v77 =>
 hv (call (.fn N_val_Name) [v77] h74) fun v78 h79 l80 =>
 ob (unV .not v78) fun v81 =>
 jn3 (fun vs83 h84 l85 =>
 ob (rFld 0 (nt vs83 3)) fun v86 =>
 ob (rLd1 h84.get v86) fun v87 =>
 al (aBuildS pg h84.n T_Lstring 1 [(0, v87)]) h84 fun v88 h89 =>
 hv (rApp h89 T_string 1 16 [(.string ⟨#[]⟩)] (nt vs83 2) v88) fun v90 h91 l92 =>
 j64 [(nt vs83 0), (nt vs83 1), v90, (nt vs83 4), (nt vs83 5), (nt vs83 6), (nt vs83 7), (nt vs83 8), (nt vs83 9), (nt vs83 10), (nt vs83 11)] h91 (l92 ++ l85)) fun j82 => fork v81
 (some ⟨.ret, [(nt vs61 0), (.bool false), (nt vs61 2), (nt vs61 3), (nt vs61 4), (nt vs61 5), (nt vs61 6), (nt vs61 7), (nt vs61 8), (nt vs61 9), (nt vs61 10)], h79, (l80 ++ (l75 ++ l63))⟩)
 (j82 [(nt vs61 0), (nt vs61 1), (nt vs61 2), v71, (nt vs61 3), (nt vs61 4), (nt vs61 5), (nt vs61 6), (nt vs61 7), (nt vs61 8), (nt vs61 9), (nt vs61 10)] h79 (l80 ++ (l75 ++ l63)))) fun j60 => fork v59
 (j60 [(nt vs57 0), (nt vs57 1), (nt vs57 2), (nt vs57 3), (nt vs57 4), (nt vs57 5), (nt vs57 6), (nt vs57 7), (nt vs57 8), (nt vs57 9), (nt vs57 10)] h58 [])
 (some ⟨(.exit 0), [(nt vs57 0), (nt vs57 1), (nt vs57 2), (nt vs57 3), (nt vs57 4), (nt vs57 5), (nt vs57 6), (nt vs57 7), (nt vs57 8), (nt vs57 9), (nt vs57 10)], h58, []⟩)
noncomputable def F_schema_Schema_named (call : CallF) (lp : LoopF) (x0 : Value) (x1 : Value) (h : H) : Option (Value × H × List Nat) :=
 al (aBx h.n T_api_Table 4 x1) h fun v0 h1 =>
 ob (rFld 0 v0) fun v2 =>
 ob (rLd1 h1.get v2) fun v3 =>
 hv (call (.fn N_schema_Schema_Find) [x0, v3] h1) fun v4 h5 l6 =>
 ob (rExtract 0 v4) fun v7 =>
 ob (rExtract 1 v4) fun v8 =>
 al (aNew h5.n T_api_Table [(.string ⟨#[]⟩), (.slice none 0 0), (.string ⟨#[]⟩), (.slice none 0 0)]) h5 fun v9 h10 =>
 hv (rStore h10 4 v9 v7) fun v11 h12 l13 =>
 gP (gd v8 false) (rFld 0 v0) fun v14 =>
 gP (gd v8 false) (rLd1 h12.get v14) fun v15 =>
 hv (gV (gd v8 false) (call (.fn N_val_Name) [v15] h12) h12) fun v16 h17 l18 =>
 gP (gd v8 false) (unV .not v16) fun v19 =>
 ob (rPick v8 (.bool true) v19) fun v20 =>
 gP (gd v20 false) (rFld 2 v0) fun v21 =>
 gP (gd v20 false) (rLd1 h17.get v21) fun v22 =>
 gP (gd v20 false) (binV pg.ty (tyD .string) .neq v22 (.string ⟨#[]⟩)) fun v23 =>
 gP (gd v20 false) (some v23) fun v24 =>
 gP (gd v24 true) (rLdA h17.get 4 v0) fun v25 =>
 gP (gd v24 true) (rFld 2 v0) fun v26 =>
 gP (gd v24 true) (rLd1 h17.get v26) fun v27 =>
 hv (gV (gd v24 true) (call (.fn N_schema_col) [v25, v27] h17) h17) fun v28 h29 l30 =>
 gP (gd v24 true) (bI .lss v28 (.int .i64 0)) fun v31 =>
 gP (gd v20 false) (rPick v24 v31 (.bool false)) fun v32 =>
 ob (rPick v20 (.bool true) v32) fun v33 =>
 jn3 (fun vs35 h36 l37 =>
 ob (rFld 1 (nt vs35 0)) fun v38 =>
 ob (rLd1 h36.get v38) fun v39 =>
 ob (rLenL v39) fun v40 =>
 jn3 (fun vs42 h43 l44 =>
 hv (call (.fn N_schema_twice) [(nt vs42 1)] h43) fun v45 h46 l47 =>
 ob (unV .not v45) fun v48 =>
 gP (gd v48 true) (rFld 3 (nt vs42 0)) fun v49 =>
 gP (gd v48 true) (rLd1 h46.get v49) fun v50 =>
 gP (gd v48 true) (oFunc N_schema_Schema_named_1 #[] #[(nt vs42 0)]) fun v51 =>
 hv (gV (gd v48 true) (call (.fn N_slices_ContainsFunc_api_Dep_api_Dep) [v50, v51] h46) h46) fun v52 h53 l54 =>
 gP (gd v48 true) (unV .not v52) fun v55 =>
 ob (rPick v48 v55 (.bool false)) fun v56 =>
 fin h (rsT v56 (some [])) h53 (l54 ++ (l47 ++ l44))) fun j41 =>
 ob (lp (F_schema_Schema_named_L250 call lp) [(nt vs35 0), (nt vs35 1), (.slice none 0 0), v39, v40, (.int .i64 0), (nt vs35 2), (nt vs35 3), (nt vs35 4), (nt vs35 5), (nt vs35 6)] h36) fun o93 =>
 onEx o93.ex (j41 [(nt o93.vs 0), (nt o93.vs 2), (nt o93.vs 6), (nt o93.vs 7), (nt o93.vs 8), (nt o93.vs 9), (nt o93.vs 10)] o93.h (o93.lg ++ l37)) (fun i94 => bif Nat.beq i94 0 then j41 [(nt o93.vs 0), (nt o93.vs 2), (nt o93.vs 6), (nt o93.vs 7), (nt o93.vs 8), (nt o93.vs 9), (nt o93.vs 10)] o93.h (o93.lg ++ l37) else none) (fin h (rsT (nt o93.vs 1) (some [])) o93.h (o93.lg ++ l37))) fun j34 => fork v33
 (fin h (rsT (.bool false) (some [])) h29 (l30 ++ (l18 ++ (l13 ++ (l6 ++ [])))))
 (j34 [v0, (.bool false), poison, poison, poison, poison, poison] h29 (l30 ++ (l18 ++ (l13 ++ (l6 ++ [])))))

-- 89 slices.ContainsFunc[[]asterism/api.Col,asterism/api.Col]
noncomputable def F_slices_ContainsFunc_api_Col_api_Col (call : CallF) (lp : LoopF) (x0 : Value) (x1 : Value) (h : H) : Option (Value × H × List Nat) :=
 hv (call (.fn N_slices_IndexFunc_api_Col_api_Col) [x0, x1] h) fun v0 h1 l2 =>
 ob (bI .geq v0 (.int .i64 0)) fun v3 =>
 fin h (rsT v3 (some [])) h1 (l2 ++ [])

-- 90 (*asterism/schema.Schema).Add$1
noncomputable def F_schema_Schema_Add_1 (call : CallF) (lp : LoopF) (x0 : Value) (h : H) : Option (Value × H × List Nat) :=
 al (aBx h.n T_api_Col 4 x0) h fun v0 h1 =>
 ob (rFld 1 v0) fun v2 =>
 ob (rLd1 h1.get v2) fun v3 =>
 ob (bI .neq v3 (.int .i64 1)) fun v4 =>
 gP (gd v4 true) (rFld 1 v0) fun v5 =>
 gP (gd v4 true) (rLd1 h1.get v5) fun v6 =>
 gP (gd v4 true) (bI .neq v6 (.int .i64 2)) fun v7 =>
 ob (rPick v4 v7 (.bool false)) fun v8 =>
 fin h (rsT v8 (some [])) h1 []

-- 91 (*asterism/schema.Schema).refs
noncomputable def F_schema_Schema_refs_L58 (call : CallF) (lp : LoopF) : List Value → H → Option LOut := fun vs9 h10 =>
 ob (bI .lss (nt vs9 4) (nt vs9 3)) fun v11 =>
 jn3 (fun vs13 h14 l15 =>
 jn3 (fun vs17 h18 l19 =>
 ob (bI .add (nt vs17 4) (.int .i64 1)) fun v20 =>
 some ⟨.normal, [(nt vs17 0), (nt vs17 1), (nt vs17 2), (nt vs17 3), v20], h18, l19⟩) fun j16 =>
 ob (rIdxS 4 (nt vs13 2) (nt vs13 4)) fun v21 =>
 ob (rLdA h14.get 4 v21) fun v22 =>
 al (aNew h14.n T_api_Col [(.string ⟨#[]⟩), (.int .i64 0), (.bool false), (.string ⟨#[]⟩)]) h14 fun v23 h24 =>
 hv (rStore h24 4 v23 v22) fun v25 h26 l27 =>
 ob (rFld 3 v23) fun v28 =>
 ob (rLd1 h26.get v28) fun v29 =>
 ob (binV pg.ty (tyD .string) .eql v29 (.string ⟨#[]⟩)) fun v30 =>
 jn3 (fun vs32 h33 l34 =>
 ob (rFld 3 (nt vs32 2)) fun v35 =>
 ob (rLd1 h33.get v35) fun v36 =>
 hv (call (.fn N_schema_Schema_Find) [(nt vs32 0), v36] h33) fun v37 h38 l39 =>
 ob (rExtract 0 v37) fun v40 =>
 ob (rExtract 1 v37) fun v41 =>
 al (aNew h38.n T_api_Table [(.string ⟨#[]⟩), (.slice none 0 0), (.string ⟨#[]⟩), (.slice none 0 0)]) h38 fun v42 h43 =>
 hv (rStore h43 4 v42 v40) fun v44 h45 l46 =>
 jn3 (fun vs48 h49 l50 =>
 j16 [(nt vs48 0), (nt vs48 1), (nt vs48 2), (nt vs48 3), (nt vs48 4)] h49 l50) fun j47 =>
 ob (unV .not v41) fun v51 =>
 jn3 (fun vs53 h54 l55 =>
 j47 [(nt vs53 0), (nt vs53 1), (nt vs53 2), (nt vs53 3), (nt vs53 4)] h54 l55) fun j52 => fork v51
 (some ⟨.ret, [(nt vs32 0), (.int .i64 3), (nt vs32 3), (nt vs32 4), (nt vs32 5)], h45, (l46 ++ (l39 ++ l34))⟩)
 (ob (rFld 2 v42) fun v56 =>
 ob (rLd1 h45.get v56) fun v57 =>
 ob (binV pg.ty (tyD .string) .eql v57 (.string ⟨#[]⟩)) fun v58 =>
 jn3 (fun vs60 h61 l62 =>
 j52 [(nt vs60 0), (nt vs60 1), (nt vs60 2), (nt vs60 3), (nt vs60 4)] h61 l62) fun j59 => fork v58
 (some ⟨.ret, [(nt vs32 0), (.int .i64 9), (nt vs32 3), (nt vs32 4), (nt vs32 5)], h45, (l46 ++ (l39 ++ l34))⟩)
 (ob (rFld 1 v42) fun v63 =>
 ob (rLd1 h45.get v63) fun v64 =>
 ob (rLdA h45.get 4 v42) fun v65 =>
 ob (rFld 2 v42) fun v66 =>
 ob (rLd1 h45.get v66) fun v67 =>
 hv (call (.fn N_schema_col) [v65, v67] h45) fun v68 h69 l70 =>
 ob (rIdxS 4 v64 v68) fun v71 =>
 ob (rFld 1 v71) fun v72 =>
 ob (rLd1 h69.get v72) fun v73 =>
 ob (rFld 1 (nt vs32 2)) fun v74 =>
 ob (rLd1 h69.get v74) fun v75 =>
 ob (bI .neq v73 v75) fun v76 =>
 dr [0, 1, 0, 0, 8, 28, 63, 127, 255, 0, 512, 2047, 4095] [mP h45, mR h45 (rdP v63), mR h45 (rdP v42), mP h45, mR h45 (rdP v66), mH h45 (rdL [v65, v67]) l70 h69, mP h69, mP h69, mR h69 (rdP v72), mP h69, mR h69 (rdP v74), mP h69, mP h69] fun l77 =>
 jn3 (fun vs79 h80 l81 =>
 j59 [(nt vs79 0), (nt vs79 1), (nt vs79 2), (nt vs79 3), (nt vs79 4)] h80 l81) fun j78 => fork v76
 (some ⟨.ret, [(nt vs32 0), (.int .i64 4), (nt vs32 3), (nt vs32 4), (nt vs32 5)], h69, (l77 ++ (l46 ++ (l39 ++ l34)))⟩)
 (j78 [(nt vs32 0), (nt vs32 1), (nt vs32 3), (nt vs32 4), (nt vs32 5)] h69 (l77 ++ (l46 ++ (l39 ++ l34))))))) fun j31 => fork v30
 (j16 [(nt vs13 0), (nt vs13 1), (nt vs13 2), (nt vs13 3), (nt vs13 4)] h26 (l27 ++ l15))
 (j31 [(nt vs13 0), (nt vs13 1), v23, (nt vs13 2), (nt vs13 3), (nt vs13 4)] h26 (l27 ++ l15))) fun j12 => fork v11
 (j12 [(nt vs9 0), (nt vs9 1), (nt vs9 2), (nt vs9 3), (nt vs9 4)] h10 [])
 (some ⟨(.exit 0), [(nt vs9 0), (nt vs9 1), (nt vs9 2), (nt vs9 3), (nt vs9 4)], h10, []⟩)
noncomputable def F_schema_Schema_refs (call : CallF) (lp : LoopF) (x0 : Value) (x1 : Value) (h : H) : Option (Value × H × List Nat) :=
 al (aBx h.n T_api_Table 4 x1) h fun v0 h1 =>
 ob (rFld 1 v0) fun v2 =>
 ob (rLd1 h1.get v2) fun v3 =>
 ob (rLenL v3) fun v4 =>
 jn3 (fun vs6 h7 l8 =>
 fin h (rsT (.int .i64 0) (some [])) h7 l8) fun j5 =>
 ob (lp (F_schema_Schema_refs_L58 call lp) [x0, (.int .i64 0), v3, v4, (.int .i64 0)] h1) fun o82 =>
 onEx o82.ex (j5 [] o82.h (o82.lg ++ [])) (fun i83 => bif Nat.beq i83 0 then j5 [] o82.h (o82.lg ++ []) else none) (fin h (rsT (nt o82.vs 1) (some [])) o82.h (o82.lg ++ []))

-- 92 asterism/schema.col
noncomputable def F_schema_col (call : CallF) (lp : LoopF) (x0 : Value) (x1 : Value) (h : H) : Option (Value × H × List Nat) :=
 al (aBx h.n T_api_Table 4 x0) h fun v0 h1 =>
 al (aBx h1.n T_string 1 x1) h1 fun v2 h3 =>
 ob (rFld 1 v0) fun v4 =>
 ob (rLd1 h3.get v4) fun v5 =>
 ob (oFunc N_schema_col_1 #[] #[v2]) fun v6 =>
 hv (call (.fn N_slices_IndexFunc_api_Col_api_Col) [v5, v6] h3) fun v7 h8 l9 =>
 fin h (rsT v7 (some [])) h8 (l9 ++ [])

-- 93 (*asterism/column.Column).Len
noncomputable def F_column_Column_Len (call : CallF) (lp : LoopF) (x0 : Value) (h : H) : Option (Value × H × List Nat) :=
 ob (binV pg.ty (tyD (.pointer 0)) .eql x0 (.pointer none)) fun v0 =>
 jn3 (fun vs2 h3 l4 =>
 ob (rNil (nt vs2 0)) fun v5 =>
 ob (rFld 1 v5) fun v6 =>
 ob (rLd1 h3.get v6) fun v7 =>
 ob (rLenL v7) fun v8 =>
 fin h (rsT v8 (some [])) h3 l4) fun j1 => fork v0
 (fin h (rsT (.int .i64 0) (some [])) h [])
 (j1 [x0] h [])

-- 94 (*asterism/column.Column).At
noncomputable def F_column_Column_At (call : CallF) (lp : LoopF) (x0 : Value) (x1 : Value) (h : H) : Option (Value × H × List Nat) :=
 al (aNew h.n T_api_Value [(.int .i64 0), (.int .i64 0), (.string ⟨#[]⟩)]) h fun v0 h1 =>
 ob (bI .lss x1 (.int .i64 0)) fun v2 =>
 gP (gd v2 false) (some x1) fun v3 =>
 gP (gd v2 false) (some x0) fun v4 =>
 hv (gV (gd v2 false) (call (.fn N_column_Column_Len) [v4] h1) h1) fun v5 h6 l7 =>
 gP (gd v2 false) (bI .geq v3 v5) fun v8 =>
 ob (rPick v2 (.bool true) v8) fun v9 =>
 jn3 (fun vs11 h12 l13 =>
 ob (rNil (nt vs11 0)) fun v14 =>
 ob (rFld 1 v14) fun v15 =>
 ob (rLd1 h12.get v15) fun v16 =>
 ob (rIdxS 3 v16 (nt vs11 1)) fun v17 =>
 ob (rLdA h12.get 3 v17) fun v18 =>
 hv (rStore h12 3 (nt vs11 2) v18) fun v19 h20 l21 =>
 fin h (rsK (rLdA h20.get 3 (nt vs11 2)) (rsT (.bool true) (some []))) h20 (l21 ++ l13)) fun j10 => fork v9
 (ob (oBuild pg T_api_Value []) fun v22 =>
 hv (rStore h6 3 v0 v22) fun v23 h24 l25 =>
 fin h (rsK (rLdA h24.get 3 v0) (rsT (.bool false) (some []))) h24 (l25 ++ (l7 ++ [])))
 (j10 [x0, x1, v0] h6 (l7 ++ []))

-- 95 slices.Clone[[]asterism/api.Col,asterism/api.Col]
noncomputable def F_slices_Clone_api_Col_api_Col (call : CallF) (lp : LoopF) (x0 : Value) (h : H) : Option (Value × H × List Nat) :=
 ob (binV pg.ty (tyD (.slice 0)) .eql x0 (.slice none 0 0)) fun v0 =>
 jn3 (fun vs2 h3 l4 =>
 al (aBuildS pg h3.n T_Lapi_Col 0 []) h3 fun v5 h6 =>
 hv (rApp h6 T_api_Col 4 48 [(.string ⟨#[]⟩), (.int .i64 0), (.bool false), (.string ⟨#[]⟩)] v5 (nt vs2 0)) fun v7 h8 l9 =>
 fin h (rsT v7 (some [])) h8 (l9 ++ l4)) fun j1 => fork v0
 (fin h (rsT (.slice none 0 0) (some [])) h [])
 (j1 [x0] h [])

-- 96 slices.Clone[[]asterism/api.Dep,asterism/api.Dep]
noncomputable def F_slices_Clone_api_Dep_api_Dep (call : CallF) (lp : LoopF) (x0 : Value) (h : H) : Option (Value × H × List Nat) :=
 ob (binV pg.ty (tyD (.slice 0)) .eql x0 (.slice none 0 0)) fun v0 =>
 jn3 (fun vs2 h3 l4 =>
 al (aBuildS pg h3.n T_Lapi_Dep 0 []) h3 fun v5 h6 =>
 hv (rApp h6 T_api_Dep 2 40 [(.slice none 0 0), (.string ⟨#[]⟩)] v5 (nt vs2 0)) fun v7 h8 l9 =>
 fin h (rsT v7 (some [])) h8 (l9 ++ l4)) fun j1 => fork v0
 (fin h (rsT (.slice none 0 0) (some [])) h [])
 (j1 [x0] h [])

-- 97 slices.Clone[[]string,string]
noncomputable def F_slices_Clone_string_string (call : CallF) (lp : LoopF) (x0 : Value) (h : H) : Option (Value × H × List Nat) :=
 ob (binV pg.ty (tyD (.slice 0)) .eql x0 (.slice none 0 0)) fun v0 =>
 jn3 (fun vs2 h3 l4 =>
 al (aBuildS pg h3.n T_Lstring 0 []) h3 fun v5 h6 =>
 hv (rApp h6 T_string 1 16 [(.string ⟨#[]⟩)] v5 (nt vs2 0)) fun v7 h8 l9 =>
 fin h (rsT v7 (some [])) h8 (l9 ++ l4)) fun j1 => fork v0
 (fin h (rsT (.slice none 0 0) (some [])) h [])
 (j1 [x0] h [])

-- 98 (asterism/bitmap.Map).All$1
noncomputable def F_bitmap_Map_All_1_L3686 (call : CallF) (lp : LoopF) : List Value → H → Option LOut := fun vs32 h33 =>
 ob (rIdxA 2 1 (nt vs32 1) (.int .i64 1)) fun v34 =>
 ob (rLd1 h33.get v34) fun v35 =>
 ob (bI .lss (nt vs32 2) v35) fun v36 =>
 jn3 (fun vs38 h39 l40 =>
 jn3 (fun vs42 h43 l44 =>
 ob (bI .add (nt vs42 2) (.int .i64 1)) fun v45 =>
 some ⟨.normal, [(nt vs42 0), (nt vs42 1), v45, (nt vs42 3), (nt vs42 4), (nt vs42 5)], h43, l44⟩) fun j41 =>
 hv (callV call h39 (nt vs38 0) [(nt vs38 2)]) fun v46 h47 l48 =>
 ob (unV .not v46) fun v49 =>
 jn3 (fun vs51 h52 l53 =>
 j41 [(nt vs51 0), (nt vs51 1), (nt vs51 2), (nt vs51 3), (nt vs51 4), (nt vs51 5)] h52 l53) fun j50 => fork v49
 (some ⟨.ret, [(nt vs38 0), (nt vs38 1), (nt vs38 2), (nt vs38 3), (nt vs38 4), (nt vs38 5)], h47, (l48 ++ l40)⟩)
 (j50 [(nt vs38 0), (nt vs38 1), (nt vs38 2), (nt vs38 3), (nt vs38 4), (nt vs38 5)] h47 (l48 ++ l40))) fun j37 => fork v36
 (j37 [(nt vs32 0), (nt vs32 1), (nt vs32 2), (nt vs32 3), (nt vs32 4), (nt vs32 5)] h33 [])
 (some ⟨(.exit 2), [(nt vs32 0), (nt vs32 1), (nt vs32 2), (nt vs32 3), (nt vs32 4), (nt vs32 5)], h33, []⟩)
noncomputable def F_bitmap_Map_All_1_L14 (call : CallF) (lp : LoopF) : List Value → H → Option LOut := fun vs7 h8 =>
 ob (bI .lss (nt vs7 3) (nt vs7 2)) fun v9 =>
 jn3 (fun vs11 h12 l13 =>
 jn3 (fun vs15 h16 l17 =>
 ob (bI .add (nt vs15 3) (.int .i64 1)) fun v18 =>
 some ⟨.normal, [(nt vs15 0), (nt vs15 1), (nt vs15 2), v18], h16, l17⟩) fun j14 =>
 ob (rIdxS 2 (nt vs11 1) (nt vs11 3)) fun v19 =>
 ob (rLdA h12.get 2 v19) fun v20 =>
 al (aNew h12.n T_A2i64 [(.int .i64 0), (.int .i64 0)]) h12 fun v21 h22 =>
 hv (rStore h22 2 v21 v20) fun v23 h24 l25 =>
 ob (rIdxA 2 1 v21 (.int .i64 0)) fun v26 =>
 ob (rLd1 h24.get v26) fun v27 =>
 jn3 (fun vs29 h30 l31 =>
 j14 [(nt vs29 0), (nt vs29 1), (nt vs29 2), (nt vs29 3)] h30 l31) fun j28 =>
 ob (lp (F_bitmap_Map_All_1_L3686 call lp) [(nt vs11 0), v21, v27, (nt vs11 1), (nt vs11 2), (nt vs11 3)] h24) fun o54 =>
 onEx o54.ex (j28 [(nt o54.vs 0), (nt o54.vs 3), (nt o54.vs 4), (nt o54.vs 5)] o54.h (o54.lg ++ (l25 ++ l13))) (fun i55 => bif Nat.beq i55 2 then j28 [(nt o54.vs 0), (nt o54.vs 3), (nt o54.vs 4), (nt o54.vs 5)] o54.h (o54.lg ++ (l25 ++ l13)) else bif Nat.beq i55 1 then j14 [(nt o54.vs 0), (nt o54.vs 3), (nt o54.vs 4), (nt o54.vs 5)] o54.h (o54.lg ++ (l25 ++ l13)) else some ⟨(.exit i55), [(nt o54.vs 0), (nt o54.vs 3), (nt o54.vs 4), (nt o54.vs 5)], o54.h, (o54.lg ++ (l25 ++ l13))⟩) (some ⟨.ret, [(nt o54.vs 0), (nt o54.vs 3), (nt o54.vs 4), (nt o54.vs 5)], o54.h, (o54.lg ++ (l25 ++ l13))⟩)) fun j10 => fork v9
 (j10 [(nt vs7 0), (nt vs7 1), (nt vs7 2), (nt vs7 3)] h8 [])
 (some ⟨(.exit 0), [(nt vs7 0), (nt vs7 1), (nt vs7 2), (nt vs7 3)], h8, []⟩)
noncomputable def F_bitmap_Map_All_1 (call : CallF) (lp : LoopF) (x0 : Value) (x1 : Value) (h : H) : Option (Value × H × List Nat) :=
 ob (rFld 0 x1) fun v0 =>
 ob (rLd1 h.get v0) fun v1 =>
 ob (rLenL v1) fun v2 =>
 jn3 (fun vs4 h5 l6 =>
 fin h (some []) h5 l6) fun j3 =>
 ob (lp (F_bitmap_Map_All_1_L14 call lp) [x0, v1, v2, (.int .i64 0)] h) fun o56 =>
 onEx o56.ex (j3 [] o56.h (o56.lg ++ [])) (fun i57 => bif Nat.beq i57 0 then j3 [] o56.h (o56.lg ++ []) else none) (fin h (some []) o56.h (o56.lg ++ []))

end Go.L1
