import Derived.Test.YtbmpmjljbiepiaaGreatSeatFa
set_option autoImplicit true
set_option relaxedAutoImplicit true
set_option linter.all false
set_option linter.unusedVariables false
set_option linter.unusedSimpArgs false
set_option linter.unusedVariables false
namespace Go.L1
open Go Go.Proofs

-- 94 cmp.Compare[int]
noncomputable def F_k94 (call : CallF) (lp : LoopF) (x0 : Value) (x1 : Value) (h : H) : Option (Value × H × List Nat) :=
 hv (call (.fn N_k152) [x0] h) fun v0 h1 l2 =>
 hv (call (.fn N_k152) [x1] h1) fun v3 h4 l5 =>
 jn3 (fun vs7 h8 l9 =>
 jn3 (fun vs11 h12 l13 =>
 ob (bI .lss (nt vs11 0) (nt vs11 1)) fun v14 =>
 jn3 (fun vs16 h17 l18 =>
 ob (bI .gtr (nt vs16 0) (nt vs16 1)) fun v19 =>
 jn3 (fun vs21 h22 l23 =>
 fin h (rsT (.int .i64 0) (some [])) h22 l23) fun j20 => fork v19
 (fin h (rsT (.int .i64 1) (some [])) h17 l18)
 (j20 [] h17 l18)) fun j15 => fork v14
 (fin h (rsT (.int .i64 (-1)) (some [])) h12 l13)
 (j15 [(nt vs11 0), (nt vs11 1)] h12 l13)) fun j10 => fork (nt vs7 2)
 (fin h (rsT (.int .i64 1) (some [])) h8 l9)
 (j10 [(nt vs7 0), (nt vs7 1)] h8 l9)) fun j6 => fork v0
 (jn3 (fun vs25 h26 l27 =>
 fin h (rsT (.int .i64 (-1)) (some [])) h26 l27) fun j24 => fork v3
 (fin h (rsT (.int .i64 0) (some [])) h4 (l5 ++ (l2 ++ [])))
 (j24 [] h4 (l5 ++ (l2 ++ []))))
 (j6 [x0, x1, v3] h4 (l5 ++ (l2 ++ [])))

-- 95 cmp.Compare[int64]
noncomputable def F_k95 (call : CallF) (lp : LoopF) (x0 : Value) (x1 : Value) (h : H) : Option (Value × H × List Nat) :=
 hv (call (.fn N_k153) [x0] h) fun v0 h1 l2 =>
 hv (call (.fn N_k153) [x1] h1) fun v3 h4 l5 =>
 jn3 (fun vs7 h8 l9 =>
 jn3 (fun vs11 h12 l13 =>
 ob (bI .lss (nt vs11 0) (nt vs11 1)) fun v14 =>
 jn3 (fun vs16 h17 l18 =>
 ob (bI .gtr (nt vs16 0) (nt vs16 1)) fun v19 =>
 jn3 (fun vs21 h22 l23 =>
 fin h (rsT (.int .i64 0) (some [])) h22 l23) fun j20 => fork v19
 (fin h (rsT (.int .i64 1) (some [])) h17 l18)
 (j20 [] h17 l18)) fun j15 => fork v14
 (fin h (rsT (.int .i64 (-1)) (some [])) h12 l13)
 (j15 [(nt vs11 0), (nt vs11 1)] h12 l13)) fun j10 => fork (nt vs7 2)
 (fin h (rsT (.int .i64 1) (some [])) h8 l9)
 (j10 [(nt vs7 0), (nt vs7 1)] h8 l9)) fun j6 => fork v0
 (jn3 (fun vs25 h26 l27 =>
 fin h (rsT (.int .i64 (-1)) (some [])) h26 l27) fun j24 => fork v3
 (fin h (rsT (.int .i64 0) (some [])) h4 (l5 ++ (l2 ++ [])))
 (j24 [] h4 (l5 ++ (l2 ++ []))))
 (j6 [x0, x1, v3] h4 (l5 ++ (l2 ++ [])))

-- 96 cmp.Compare[string]
noncomputable def F_k96 (call : CallF) (lp : LoopF) (x0 : Value) (x1 : Value) (h : H) : Option (Value × H × List Nat) :=
 hv (call (.fn N_k154) [x0] h) fun v0 h1 l2 =>
 hv (call (.fn N_k154) [x1] h1) fun v3 h4 l5 =>
 jn3 (fun vs7 h8 l9 =>
 jn3 (fun vs11 h12 l13 =>
 ob (binV pgB.ty (tyD .string) .lss (nt vs11 0) (nt vs11 1)) fun v14 =>
 jn3 (fun vs16 h17 l18 =>
 ob (binV pgB.ty (tyD .string) .gtr (nt vs16 0) (nt vs16 1)) fun v19 =>
 jn3 (fun vs21 h22 l23 =>
 fin h (rsT (.int .i64 0) (some [])) h22 l23) fun j20 => fork v19
 (fin h (rsT (.int .i64 1) (some [])) h17 l18)
 (j20 [] h17 l18)) fun j15 => fork v14
 (fin h (rsT (.int .i64 (-1)) (some [])) h12 l13)
 (j15 [(nt vs11 0), (nt vs11 1)] h12 l13)) fun j10 => fork (nt vs7 2)
 (fin h (rsT (.int .i64 1) (some [])) h8 l9)
 (j10 [(nt vs7 0), (nt vs7 1)] h8 l9)) fun j6 => fork v0
 (jn3 (fun vs25 h26 l27 =>
 fin h (rsT (.int .i64 (-1)) (some [])) h26 l27) fun j24 => fork v3
 (fin h (rsT (.int .i64 0) (some [])) h4 (l5 ++ (l2 ++ [])))
 (j24 [] h4 (l5 ++ (l2 ++ []))))
 (j6 [x0, x1, v3] h4 (l5 ++ (l2 ++ [])))

-- 97 asterism/path.Col
noncomputable def F_k97_L122 (call : CallF) (lp : LoopF) : List Value → H → Option LOut := fun vs21 h22 =>
 ob (bI .lss (nt vs21 8) (nt vs21 7)) fun v23 =>
 jn3 (fun vs25 h26 l27 =>
 jn3 (fun vs29 h30 l31 =>
 ob (bI .add (nt vs29 8) (.int .i64 1)) fun v32 =>
 some ⟨.normal, [(nt vs29 0), (nt vs29 1), (nt vs29 2), (nt vs29 3), (nt vs29 4), (nt vs29 5), (nt vs29 6), (nt vs29 7), v32], h30, l31⟩) fun j28 =>
 ob (rIdxS 1 (nt vs25 6) (nt vs25 8)) fun v33 =>
 ob (rLd1 h26.get v33) fun v34 =>
 hv (call (.fn N_k98) [(nt vs25 0), (nt vs25 1), v34] h26) fun v35 h36 l37 =>
 ob (rExtract 0 v35) fun v38 =>
 ob (rExtract 1 v35) fun v39 =>
 al (aNew h36.n T_api_Col [(.string ⟨#[]⟩), (.int .i64 0), (.bool false), (.string ⟨#[]⟩)]) h36 fun v40 h41 =>
 hv (rStore h41 4 v40 v38) fun v42 h43 l44 =>
 jn3 (fun vs46 h47 l48 =>
 ob (rFld 3 (nt vs46 5)) fun v49 =>
 ob (rLd1 h47.get v49) fun v50 =>
 j28 [(nt vs46 0), v50, (nt vs46 1), (nt vs46 2), (nt vs46 3), (nt vs46 4), (nt vs46 6), (nt vs46 7), (nt vs46 8)] h47 l48) fun j45 =>
 ob (unV .not v39) fun v51 =>
 jn3 (fun vs53 h54 l55 =>
 j45 [(nt vs53 0), (nt vs53 1), (nt vs53 2), (nt vs53 3), (nt vs53 4), (nt vs53 5), (nt vs53 6), (nt vs53 7), (nt vs53 8)] h54 l55) fun j52 => fork v51
 (ob (oBuild pgB T_api_Col []) fun v56 =>
 hv (rStore h43 4 (nt vs25 3) v56) fun v57 h58 l59 =>
 some ⟨.ret, [(nt vs25 0), (nt vs25 1), (nt vs25 2), (nt vs25 3), (.string ⟨#[]⟩), (.int .i64 3), (nt vs25 6), (nt vs25 7), (nt vs25 8)], h58, (l59 ++ (l44 ++ (l37 ++ l27)))⟩)
 (ob (rLenL (nt vs25 2)) fun v60 =>
 ob (bI .sub v60 (.int .i64 1)) fun v61 =>
 ob (bI .eql (nt vs25 8) v61) fun v62 =>
 jn3 (fun vs64 h65 l66 =>
 j52 [(nt vs64 0), (nt vs64 1), (nt vs64 2), (nt vs64 3), (nt vs64 4), (nt vs64 5), (nt vs64 6), (nt vs64 7), (nt vs64 8)] h65 l66) fun j63 => fork v62
 (ob (rLdA h43.get 4 v40) fun v67 =>
 hv (rStore h43 4 (nt vs25 3) v67) fun v68 h69 l70 =>
 some ⟨.ret, [(nt vs25 0), (nt vs25 1), (nt vs25 2), (nt vs25 3), (nt vs25 1), (.int .i64 0), (nt vs25 6), (nt vs25 7), (nt vs25 8)], h69, (l70 ++ (l44 ++ (l37 ++ l27)))⟩)
 (ob (rFld 3 v40) fun v71 =>
 ob (rLd1 h43.get v71) fun v72 =>
 ob (binV pgB.ty (tyD .string) .eql v72 (.string ⟨#[]⟩)) fun v73 =>
 jn3 (fun vs75 h76 l77 =>
 j63 [(nt vs75 0), (nt vs75 1), (nt vs75 2), (nt vs75 3), (nt vs75 4), (nt vs75 5), (nt vs75 6), (nt vs75 7), (nt vs75 8)] h76 l77) fun j74 => fork v73
 (ob (oBuild pgB T_api_Col []) fun v78 =>
 hv (rStore h43 4 (nt vs25 3) v78) fun v79 h80 l81 =>
 some ⟨.ret, [(nt vs25 0), (nt vs25 1), (nt vs25 2), (nt vs25 3), (.string ⟨#[]⟩), (.int .i64 9), (nt vs25 6), (nt vs25 7), (nt vs25 8)], h80, (l81 ++ (l44 ++ (l37 ++ l27)))⟩)
 (j74 [(nt vs25 0), (nt vs25 2), (nt vs25 3), (nt vs25 4), (nt vs25 5), v40, (nt vs25 6), (nt vs25 7), (nt vs25 8)] h43 (l44 ++ (l37 ++ l27)))))) fun j24 => fork v23
 (j24 [(nt vs21 0), (nt vs21 1), (nt vs21 2), (nt vs21 3), (nt vs21 4), (nt vs21 5), (nt vs21 6), (nt vs21 7), (nt vs21 8)] h22 [])
 (some ⟨(.exit 0), [(nt vs21 0), (nt vs21 1), (nt vs21 2), (nt vs21 3), (nt vs21 4), (nt vs21 5), (nt vs21 6), (nt vs21 7), (nt vs21 8)], h22, []⟩)
noncomputable def F_k97 (call : CallF) (lp : LoopF) (x0 : Value) (x1 : Value) (x2 : Value) (h : H) : Option (Value × H × List Nat) :=
 al (aNew h.n T_api_Col [(.string ⟨#[]⟩), (.int .i64 0), (.bool false), (.string ⟨#[]⟩)]) h fun v0 h1 =>
 ob (rLenL x2) fun v2 =>
 ob (bI .eql v2 (.int .i64 0)) fun v3 =>
 gP (gd v3 false) (some x2) fun v4 =>
 gP (gd v3 false) (rLenL v4) fun v5 =>
 gP (gd v3 false) (bI .gtr v5 (.int .i64 4)) fun v6 =>
 ob (rPick v3 (.bool true) v6) fun v7 =>
 jn3 (fun vs9 h10 l11 =>
 ob (rLenL (nt vs9 2)) fun v12 =>
 jn3 (fun vs14 h15 l16 =>
 ob (oBuild pgB T_api_Col []) fun v17 =>
 hv (rStore h15 4 (nt vs14 0) v17) fun v18 h19 l20 =>
 fin h (rsK (rLdA h19.get 4 (nt vs14 0)) (rsT (.string ⟨#[]⟩) (rsT (.int .i64 3) (some [])))) h19 (l20 ++ l16)) fun j13 =>
 ob (lp (F_k97_L122 call lp) [(nt vs9 0), (nt vs9 1), (nt vs9 2), (nt vs9 3), (nt vs9 4), (nt vs9 5), (nt vs9 2), v12, (.int .i64 0)] h10) fun o82 =>
 onEx o82.ex (j13 [(nt o82.vs 3)] o82.h (o82.lg ++ l11)) (fun i83 => bif Nat.beq i83 0 then j13 [(nt o82.vs 3)] o82.h (o82.lg ++ l11) else none) (fin h (rsK (rLdA o82.h.get 4 (nt o82.vs 3)) (rsT (nt o82.vs 4) (rsT (nt o82.vs 5) (some [])))) o82.h (o82.lg ++ l11))) fun j8 => fork v7
 (ob (oBuild pgB T_api_Col []) fun v84 =>
 hv (rStore h1 4 v0 v84) fun v85 h86 l87 =>
 fin h (rsK (rLdA h86.get 4 v0) (rsT (.string ⟨#[]⟩) (rsT (.int .i64 5) (some [])))) h86 (l87 ++ []))
 (j8 [x0, x1, x2, v0, (.string ⟨#[]⟩), (.int .i64 0)] h1 [])

-- 98 (*asterism/schema.Schema).Col
noncomputable def F_k98 (call : CallF) (lp : LoopF) (x0 : Value) (x1 : Value) (x2 : Value) (h : H) : Option (Value × H × List Nat) :=
 al (aNew h.n T_api_Col [(.string ⟨#[]⟩), (.int .i64 0), (.bool false), (.string ⟨#[]⟩)]) h fun v0 h1 =>
 hv (call (.fn N_k81) [x0, x1] h1) fun v2 h3 l4 =>
 ob (rExtract 0 v2) fun v5 =>
 ob (rExtract 1 v2) fun v6 =>
 al (aNew h3.n T_api_Table [(.string ⟨#[]⟩), (.slice none 0 0), (.string ⟨#[]⟩), (.slice none 0 0)]) h3 fun v7 h8 =>
 hv (rStore h8 4 v7 v5) fun v9 h10 l11 =>
 ob (rLdA h10.get 4 v7) fun v12 =>
 hv (call (.fn N_k143) [v12, x2] h10) fun v13 h14 l15 =>
 ob (bI .lss v13 (.int .i64 0)) fun v16 =>
 jn3 (fun vs18 h19 l20 =>
 ob (rFld 1 (nt vs18 1)) fun v21 =>
 ob (rLd1 h19.get v21) fun v22 =>
 ob (rIdxS 4 v22 (nt vs18 2)) fun v23 =>
 ob (rLdA h19.get 4 v23) fun v24 =>
 hv (rStore h19 4 (nt vs18 0) v24) fun v25 h26 l27 =>
 fin h (rsK (rLdA h26.get 4 (nt vs18 0)) (rsT (.bool true) (some []))) h26 (l27 ++ l20)) fun j17 => fork v16
 (ob (oBuild pgB T_api_Col []) fun v28 =>
 hv (rStore h14 4 v0 v28) fun v29 h30 l31 =>
 fin h (rsK (rLdA h30.get 4 v0) (rsT (.bool false) (some []))) h30 (l31 ++ (l15 ++ (l11 ++ (l4 ++ [])))))
 (j17 [v0, v7, v13] h14 (l15 ++ (l11 ++ (l4 ++ []))))

-- 99 (*asterism/omap.Map[asterism/api.Value, []int]).find
noncomputable def F_k99 (call : CallF) (lp : LoopF) (x0 : Value) (x1 : Value) (h : H) : Option (Value × H × List Nat) :=
 al (aBx h.n T_Pomap_Map_api_Value_int 1 x0) h fun v0 h1 =>
 al (aBx h1.n T_api_Value 3 x1) h1 fun v2 h3 =>
 ob (rLd1 h3.get v0) fun v4 =>
 ob (binV pgB.ty (tyD (.pointer 0)) .eql v4 (.pointer none)) fun v5 =>
 gP (gd v5 false) (rLd1 h3.get v0) fun v6 =>
 gP (gd v5 false) (rNil v6) fun v7 =>
 gP (gd v5 false) (rFld 0 v7) fun v8 =>
 gP (gd v5 false) (rLd1 h3.get v8) fun v9 =>
 gP (gd v5 false) (binV pgB.ty (tyD (.func #[] #[] false)) .eql v9 .nilFunc) fun v10 =>
 ob (rPick v5 (.bool true) v10) fun v11 =>
 jn3 (fun vs13 h14 l15 =>
 ob (rLd1 h14.get (nt vs13 0)) fun v16 =>
 ob (rNil v16) fun v17 =>
 ob (rFld 1 v17) fun v18 =>
 ob (rLd1 h14.get v18) fun v19 =>
 ob (rLdA h14.get 3 (nt vs13 1)) fun v20 =>
 ob (oFunc N_k156 #[] #[(nt vs13 0)]) fun v21 =>
 hv (call (.fn N_k155) [v19, v20, v21] h14) fun v22 h23 l24 =>
 ob (rExtract 0 v22) fun v25 =>
 ob (rExtract 1 v22) fun v26 =>
 dr [0, 1, 3, 7, 0, 0, 63, 127, 127, 511, 1023] [mR h14 (rdP (nt vs13 0)), mP h14, mP h14, mR h14 (rdP v18), mR h14 (rdP (nt vs13 1)), mP h14, mH h14 (rdL [v19, v20, v21]) l24 h23, mP h23, mP h23, mP h23, mP h23] fun l27 =>
 fin h (rsT v25 (rsT v26 (some []))) h23 (l27 ++ l15)) fun j12 => fork v11
 (fin h (rsT (.int .i64 0) (rsT (.bool false) (some []))) h3 [])
 (j12 [v0, v2] h3 [])

-- 100 slices.Insert[[]asterism/omap.pair[asterism/api.Value, []int],asterism/omap.pair[asterism/api.Value, []int]]
noncomputable def F_k100 (call : CallF) (lp : LoopF) (x0 : Value) (x1 : Value) (x2 : Value) (h : H) : Option (Value × H × List Nat) :=
 ob (rSl h.get T_omap_pair_api_Value_int 4 x0 (some x1) none none) fun v0 =>
 ob (rLenL x2) fun v1 =>
 ob (bI .eql v1 (.int .i64 0)) fun v2 =>
 jn3 (fun vs4 h5 l6 =>
 ob (rLenL (nt vs4 0)) fun v7 =>
 ob (bI .eql (nt vs4 1) v7) fun v8 =>
 jn3 (fun vs10 h11 l12 =>
 ob (bI .add (nt vs10 4) (nt vs10 3)) fun v13 =>
 ob (rCapL (nt vs10 0)) fun v14 =>
 ob (bI .gtr v13 v14) fun v15 =>
 jn3 (fun vs17 h18 l19 =>
 ob (bI .add (nt vs17 4) (nt vs17 3)) fun v20 =>
 ob (rSl h18.get T_omap_pair_api_Value_int 4 (nt vs17 0) none (some v20) none) fun v21 =>
 ob (bI .add (nt vs17 1) (nt vs17 3)) fun v22 =>
 ob (rSl h18.get T_omap_pair_api_Value_int 4 v21 (some v22) none none) fun v23 =>
 hv (call (.fn N_k157) [(nt vs17 2), v23] h18) fun v24 h25 l26 =>
 ob (unV .not v24) fun v27 =>
 jn3 (fun vs29 h30 l31 =>
 ob (rSl h30.get T_omap_pair_api_Value_int 4 (nt vs29 0) (some (nt vs29 4)) none none) fun v32 =>
 hv (rCopy h30 4 v32 (nt vs29 2)) fun v33 h34 l35 =>
 ob (rSl h34.get T_omap_pair_api_Value_int 4 (nt vs29 0) (some (nt vs29 1)) none none) fun v36 =>
 hv (call (.fn N_k158) [v36, (nt vs29 3)] h34) fun v37 h38 l39 =>
 fin h (rsT (nt vs29 0) (some [])) h38 (l39 ++ (l35 ++ l31))) fun j28 => fork v27
 (ob (bI .add (nt vs17 1) (nt vs17 3)) fun v40 =>
 ob (rSl h25.get T_omap_pair_api_Value_int 4 v21 (some v40) none none) fun v41 =>
 ob (rSl h25.get T_omap_pair_api_Value_int 4 v21 (some (nt vs17 1)) none none) fun v42 =>
 hv (rCopy h25 4 v41 v42) fun v43 h44 l45 =>
 dr [0, 0, 0, 6, 15, 0, 0, 96, 255] [mP h25, mP h25, mP h25, mP h25, mR h25 (rdS v21), mP h25, mP h25, mR h25 (rdS v21), mH h25 (rdL [v41, v42]) l45 h44] fun l46 =>
 ob (rSl h44.get T_omap_pair_api_Value_int 4 v21 (some (nt vs17 1)) none none) fun v47 =>
 hv (rCopy h44 4 v47 (nt vs17 2)) fun v48 h49 l50 =>
 fin h (rsT v21 (some [])) h49 (l50 ++ (l46 ++ (l26 ++ l19))))
 (j28 [v21, (nt vs17 1), (nt vs17 2), (nt vs17 3), (nt vs17 4)] h25 (l26 ++ l19))) fun j16 => fork v15
 (ob (rSl h11.get T_omap_pair_api_Value_int 4 (nt vs10 0) none (some (nt vs10 1)) none) fun v51 =>
 ob (bI .add (nt vs10 4) (nt vs10 3)) fun v52 =>
 ob (bI .sub v52 (nt vs10 1)) fun v53 =>
 hv (rAppZ h11 T_omap_pair_api_Value_int 4 56 [(.int .i64 0), (.int .i64 0), (.string ⟨#[]⟩), (.slice none 0 0)] v51 v53) fun v54 h55 l56 =>
 ob (rSl h55.get T_omap_pair_api_Value_int 4 v54 (some (nt vs10 1)) none none) fun v57 =>
 hv (rCopy h55 4 v57 (nt vs10 2)) fun v58 h59 l60 =>
 ob (bI .add (nt vs10 1) (nt vs10 3)) fun v61 =>
 ob (rSl h59.get T_omap_pair_api_Value_int 4 v54 (some v61) none none) fun v62 =>
 ob (rSl h59.get T_omap_pair_api_Value_int 4 (nt vs10 0) (some (nt vs10 1)) none none) fun v63 =>
 hv (rCopy h59 4 v62 v63) fun v64 h65 l66 =>
 dr [0, 0, 0, 6, 15, 0, 0, 96, 255] [mP h59, mP h59, mP h59, mP h59, mR h59 (rdS v54), mP h59, mP h59, mR h59 (rdS (nt vs10 0)), mH h59 (rdL [v62, v63]) l66 h65] fun l67 =>
 fin h (rsT v54 (some [])) h65 (l67 ++ (l60 ++ (l56 ++ l12))))
 (j16 [(nt vs10 0), (nt vs10 1), (nt vs10 2), (nt vs10 3), (nt vs10 4)] h11 l12)) fun j9 => fork v8
 (hv (rApp h5 T_omap_pair_api_Value_int 4 56 [(.int .i64 0), (.int .i64 0), (.string ⟨#[]⟩), (.slice none 0 0)] (nt vs4 0) (nt vs4 2)) fun v68 h69 l70 =>
 fin h (rsT v68 (some [])) h69 (l70 ++ l6))
 (j9 [(nt vs4 0), (nt vs4 1), (nt vs4 2), (nt vs4 3), v7] h5 l6)) fun j3 => fork v2
 (fin h (rsT x0 (some [])) h [])
 (j3 [x0, x1, x2, v1] h [])

-- 101 (*asterism/omap.Map[asterism/api.Value, []int]).All$1
noncomputable def F_k101_L14 (call : CallF) (lp : LoopF) : List Value → H → Option LOut := fun vs4 h5 =>
 ob (rLd1 h5.get (nt vs4 1)) fun v6 =>
 hv (call (.fn N_k102) [v6] h5) fun v7 h8 l9 =>
 ob (bI .lss (nt vs4 2) v7) fun v10 =>
 jn3 (fun vs12 h13 l14 =>
 jn3 (fun vs16 h17 l18 =>
 ob (bI .add (nt vs16 2) (.int .i64 1)) fun v19 =>
 some ⟨.normal, [(nt vs16 0), (nt vs16 1), v19], h17, l18⟩) fun j15 =>
 ob (rLd1 h13.get (nt vs12 1)) fun v20 =>
 ob (rNil v20) fun v21 =>
 ob (rFld 1 v21) fun v22 =>
 ob (rLd1 h13.get v22) fun v23 =>
 ob (rIdxS 4 v23 (nt vs12 2)) fun v24 =>
 ob (rFld 0 v24) fun v25 =>
 ob (rLdA h13.get 3 v25) fun v26 =>
 ob (rLd1 h13.get (nt vs12 1)) fun v27 =>
 ob (rNil v27) fun v28 =>
 ob (rFld 1 v28) fun v29 =>
 ob (rLd1 h13.get v29) fun v30 =>
 ob (rIdxS 4 v30 (nt vs12 2)) fun v31 =>
 ob (rFld 3 v31) fun v32 =>
 ob (rLd1 h13.get v32) fun v33 =>
 hv (callV call h13 (nt vs12 0) [v26, v33]) fun v34 h35 l36 =>
 ob (unV .not v34) fun v37 =>
 dr [0, 0, 2, 6, 14, 0, 62, 126, 254, 0, 512, 1536, 3584, 0, 15872, 32256, 65024, 131071, 262143] [mP h13, mR h13 (rdP (nt vs12 1)), mP h13, mP h13, mR h13 (rdP v22), mP h13, mP h13, mP h13, mR h13 (rdP v25), mR h13 (rdP (nt vs12 1)), mP h13, mP h13, mR h13 (rdP v29), mP h13, mP h13, mP h13, mR h13 (rdP v32), mH h13 (rdL [v26, v33]) l36 h35, mP h35] fun l38 =>
 jn3 (fun vs40 h41 l42 =>
 j15 [(nt vs40 0), (nt vs40 1), (nt vs40 2)] h41 l42) fun j39 => fork v37
 (some ⟨.ret, [(nt vs12 0), (nt vs12 1), (nt vs12 2)], h35, (l38 ++ l14)⟩)
 (j39 [(nt vs12 0), (nt vs12 1), (nt vs12 2)] h35 (l38 ++ l14))) fun j11 => fork v10
 (j11 [(nt vs4 0), (nt vs4 1), (nt vs4 2)] h8 (l9 ++ []))
 (some ⟨(.exit 0), [(nt vs4 0), (nt vs4 1), (nt vs4 2)], h8, (l9 ++ [])⟩)
noncomputable def F_k101 (call : CallF) (lp : LoopF) (x0 : Value) (x1 : Value) (h : H) : Option (Value × H × List Nat) :=
 jn3 (fun vs1 h2 l3 =>
 fin h (some []) h2 l3) fun j0 =>
 ob (lp (F_k101_L14 call lp) [x0, x1, (.int .i64 0)] h) fun o43 =>
 onEx o43.ex (j0 [] o43.h (o43.lg ++ [])) (fun i44 => bif Nat.beq i44 0 then j0 [] o43.h (o43.lg ++ []) else none) (fin h (some []) o43.h (o43.lg ++ []))

-- 102 (*asterism/omap.Map[asterism/api.Value, []int]).Len
noncomputable def F_k102 (call : CallF) (lp : LoopF) (x0 : Value) (h : H) : Option (Value × H × List Nat) :=
 ob (binV pgB.ty (tyD (.pointer 0)) .eql x0 (.pointer none)) fun v0 =>
 jn3 (fun vs2 h3 l4 =>
 ob (rNil (nt vs2 0)) fun v5 =>
 ob (rFld 1 v5) fun v6 =>
 ob (rLd1 h3.get v6) fun v7 =>
 ob (rLenL v7) fun v8 =>
 fin h (rsT v8 (some [])) h3 l4) fun j1 => fork v0
 (fin h (rsT (.int .i64 0) (some [])) h [])
 (j1 [x0] h [])

-- 103 (*asterism/omap.Map[asterism/api.Value, asterism/bitmap.Map]).find
noncomputable def F_k103 (call : CallF) (lp : LoopF) (x0 : Value) (x1 : Value) (h : H) : Option (Value × H × List Nat) :=
 al (aBx h.n T_Pomap_Map_api_Value_bitmap_Map 1 x0) h fun v0 h1 =>
 al (aBx h1.n T_api_Value 3 x1) h1 fun v2 h3 =>
 ob (rLd1 h3.get v0) fun v4 =>
 ob (binV pgB.ty (tyD (.pointer 0)) .eql v4 (.pointer none)) fun v5 =>
 gP (gd v5 false) (rLd1 h3.get v0) fun v6 =>
 gP (gd v5 false) (rNil v6) fun v7 =>
 gP (gd v5 false) (rFld 0 v7) fun v8 =>
 gP (gd v5 false) (rLd1 h3.get v8) fun v9 =>
 gP (gd v5 false) (binV pgB.ty (tyD (.func #[] #[] false)) .eql v9 .nilFunc) fun v10 =>
 ob (rPick v5 (.bool true) v10) fun v11 =>
 jn3 (fun vs13 h14 l15 =>
 ob (rLd1 h14.get (nt vs13 0)) fun v16 =>
 ob (rNil v16) fun v17 =>
 ob (rFld 1 v17) fun v18 =>
 ob (rLd1 h14.get v18) fun v19 =>
 ob (rLdA h14.get 3 (nt vs13 1)) fun v20 =>
 ob (oFunc N_k160 #[] #[(nt vs13 0)]) fun v21 =>
 hv (call (.fn N_k159) [v19, v20, v21] h14) fun v22 h23 l24 =>
 ob (rExtract 0 v22) fun v25 =>
 ob (rExtract 1 v22) fun v26 =>
 dr [0, 1, 3, 7, 0, 0, 63, 127, 127, 511, 1023] [mR h14 (rdP (nt vs13 0)), mP h14, mP h14, mR h14 (rdP v18), mR h14 (rdP (nt vs13 1)), mP h14, mH h14 (rdL [v19, v20, v21]) l24 h23, mP h23, mP h23, mP h23, mP h23] fun l27 =>
 fin h (rsT v25 (rsT v26 (some []))) h23 (l27 ++ l15)) fun j12 => fork v11
 (fin h (rsT (.int .i64 0) (rsT (.bool false) (some []))) h3 [])
 (j12 [v0, v2] h3 [])

-- 104 slices.Insert[[]asterism/omap.pair[asterism/api.Value, asterism/bitmap.Map],asterism/omap.pair[asterism/api.Value, asterism/bitmap.Map]]
noncomputable def F_k104 (call : CallF) (lp : LoopF) (x0 : Value) (x1 : Value) (x2 : Value) (h : H) : Option (Value × H × List Nat) :=
 ob (rSl h.get T_omap_pair_api_Value_bitmap_Map 4 x0 (some x1) none none) fun v0 =>
 ob (rLenL x2) fun v1 =>
 ob (bI .eql v1 (.int .i64 0)) fun v2 =>
 jn3 (fun vs4 h5 l6 =>
 ob (rLenL (nt vs4 0)) fun v7 =>
 ob (bI .eql (nt vs4 1) v7) fun v8 =>
 jn3 (fun vs10 h11 l12 =>
 ob (bI .add (nt vs10 4) (nt vs10 3)) fun v13 =>
 ob (rCapL (nt vs10 0)) fun v14 =>
 ob (bI .gtr v13 v14) fun v15 =>
 jn3 (fun vs17 h18 l19 =>
 ob (bI .add (nt vs17 4) (nt vs17 3)) fun v20 =>
 ob (rSl h18.get T_omap_pair_api_Value_bitmap_Map 4 (nt vs17 0) none (some v20) none) fun v21 =>
 ob (bI .add (nt vs17 1) (nt vs17 3)) fun v22 =>
 ob (rSl h18.get T_omap_pair_api_Value_bitmap_Map 4 v21 (some v22) none none) fun v23 =>
 hv (call (.fn N_k161) [(nt vs17 2), v23] h18) fun v24 h25 l26 =>
 ob (unV .not v24) fun v27 =>
 jn3 (fun vs29 h30 l31 =>
 ob (rSl h30.get T_omap_pair_api_Value_bitmap_Map 4 (nt vs29 0) (some (nt vs29 4)) none none) fun v32 =>
 hv (rCopy h30 4 v32 (nt vs29 2)) fun v33 h34 l35 =>
 ob (rSl h34.get T_omap_pair_api_Value_bitmap_Map 4 (nt vs29 0) (some (nt vs29 1)) none none) fun v36 =>
 hv (call (.fn N_k162) [v36, (nt vs29 3)] h34) fun v37 h38 l39 =>
 fin h (rsT (nt vs29 0) (some [])) h38 (l39 ++ (l35 ++ l31))) fun j28 => fork v27
 (ob (bI .add (nt vs17 1) (nt vs17 3)) fun v40 =>
 ob (rSl h25.get T_omap_pair_api_Value_bitmap_Map 4 v21 (some v40) none none) fun v41 =>
 ob (rSl h25.get T_omap_pair_api_Value_bitmap_Map 4 v21 (some (nt vs17 1)) none none) fun v42 =>
 hv (rCopy h25 4 v41 v42) fun v43 h44 l45 =>
 dr [0, 0, 0, 6, 15, 0, 0, 96, 255] [mP h25, mP h25, mP h25, mP h25, mR h25 (rdS v21), mP h25, mP h25, mR h25 (rdS v21), mH h25 (rdL [v41, v42]) l45 h44] fun l46 =>
 ob (rSl h44.get T_omap_pair_api_Value_bitmap_Map 4 v21 (some (nt vs17 1)) none none) fun v47 =>
 hv (rCopy h44 4 v47 (nt vs17 2)) fun v48 h49 l50 =>
 fin h (rsT v21 (some [])) h49 (l50 ++ (l46 ++ (l26 ++ l19))))
 (j28 [v21, (nt vs17 1), (nt vs17 2), (nt vs17 3), (nt vs17 4)] h25 (l26 ++ l19))) fun j16 => fork v15
 (ob (rSl h11.get T_omap_pair_api_Value_bitmap_Map 4 (nt vs10 0) none (some (nt vs10 1)) none) fun v51 =>
 ob (bI .add (nt vs10 4) (nt vs10 3)) fun v52 =>
 ob (bI .sub v52 (nt vs10 1)) fun v53 =>
 hv (rAppZ h11 T_omap_pair_api_Value_bitmap_Map 4 56 [(.int .i64 0), (.int .i64 0), (.string ⟨#[]⟩), (.slice none 0 0)] v51 v53) fun v54 h55 l56 =>
 ob (rSl h55.get T_omap_pair_api_Value_bitmap_Map 4 v54 (some (nt vs10 1)) none none) fun v57 =>
 hv (rCopy h55 4 v57 (nt vs10 2)) fun v58 h59 l60 =>
 ob (bI .add (nt vs10 1) (nt vs10 3)) fun v61 =>
 ob (rSl h59.get T_omap_pair_api_Value_bitmap_Map 4 v54 (some v61) none none) fun v62 =>
 ob (rSl h59.get T_omap_pair_api_Value_bitmap_Map 4 (nt vs10 0) (some (nt vs10 1)) none none) fun v63 =>
 hv (rCopy h59 4 v62 v63) fun v64 h65 l66 =>
 dr [0, 0, 0, 6, 15, 0, 0, 96, 255] [mP h59, mP h59, mP h59, mP h59, mR h59 (rdS v54), mP h59, mP h59, mR h59 (rdS (nt vs10 0)), mH h59 (rdL [v62, v63]) l66 h65] fun l67 =>
 fin h (rsT v54 (some [])) h65 (l67 ++ (l60 ++ (l56 ++ l12))))
 (j16 [(nt vs10 0), (nt vs10 1), (nt vs10 2), (nt vs10 3), (nt vs10 4)] h11 l12)) fun j9 => fork v8
 (hv (rApp h5 T_omap_pair_api_Value_bitmap_Map 4 56 [(.int .i64 0), (.int .i64 0), (.string ⟨#[]⟩), (.slice none 0 0)] (nt vs4 0) (nt vs4 2)) fun v68 h69 l70 =>
 fin h (rsT v68 (some [])) h69 (l70 ++ l6))
 (j9 [(nt vs4 0), (nt vs4 1), (nt vs4 2), (nt vs4 3), v7] h5 l6)) fun j3 => fork v2
 (fin h (rsT x0 (some [])) h [])
 (j3 [x0, x1, x2, v1] h [])

-- 105 slices.Clone[[]int,int]
noncomputable def F_k105 (call : CallF) (lp : LoopF) (x0 : Value) (h : H) : Option (Value × H × List Nat) :=
 ob (binV pgB.ty (tyD (.slice 0)) .eql x0 (.slice none 0 0)) fun v0 =>
 jn3 (fun vs2 h3 l4 =>
 al (aBuildS pgB h3.n T_Li64 0 []) h3 fun v5 h6 =>
 hv (rApp h6 T_i64_b 1 8 [(.int .i64 0)] v5 (nt vs2 0)) fun v7 h8 l9 =>
 fin h (rsT v7 (some [])) h8 (l9 ++ l4)) fun j1 => fork v0
 (fin h (rsT (.slice none 0 0) (some [])) h [])
 (j1 [x0] h [])

-- 106 slices.Sort[[]int,int]
noncomputable def F_k106 (call : CallF) (lp : LoopF) (x0 : Value) (h : H) : Option (Value × H × List Nat) :=
 ob (rLenL x0) fun v0 =>
 ob (rCvI .u64 v0) fun v1 =>
 hv (call (.fn N_k164) [v1] h) fun v2 h3 l4 =>
 hv (call (.fn N_k163) [x0, (.int .i64 0), v0, v2] h3) fun v5 h6 l7 =>
 fin h (some []) h6 (l7 ++ (l4 ++ []))

-- 107 (*asterism/bitmap.Map).add
noncomputable def F_k107 (call : CallF) (lp : LoopF) (x0 : Value) (x1 : Value) (x2 : Value) (h : H) : Option (Value × H × List Nat) :=
 ob (rNil x0) fun v0 =>
 ob (rFld 0 v0) fun v1 =>
 ob (rLd1 h.get v1) fun v2 =>
 ob (rLenL v2) fun v3 =>
 ob (bI .gtr v3 (.int .i64 0)) fun v4 =>
 gP (gd v4 true) (some x1) fun v5 =>
 gP (gd v4 true) (some x0) fun v6 =>
 gP (gd v4 true) (rNil v6) fun v7 =>
 gP (gd v4 true) (rFld 0 v7) fun v8 =>
 gP (gd v4 true) (rLd1 h.get v8) fun v9 =>
 gP (gd v4 true) (some v3) fun v10 =>
 gP (gd v4 true) (bI .sub v10 (.int .i64 1)) fun v11 =>
 gP (gd v4 true) (rIdxS 2 v9 v11) fun v12 =>
 gP (gd v4 true) (rIdxA 2 1 v12 (.int .i64 1)) fun v13 =>
 gP (gd v4 true) (rLd1 h.get v13) fun v14 =>
 gP (gd v4 true) (bI .leq v5 v14) fun v15 =>
 ob (rPick v4 v15 (.bool false)) fun v16 =>
 jn3 (fun vs18 h19 l20 =>
 fin h (some []) h19 l20) fun j17 => fork v16
 (ob (rNil x0) fun v21 =>
 ob (rFld 0 v21) fun v22 =>
 ob (rLd1 h.get v22) fun v23 =>
 ob (bI .sub v3 (.int .i64 1)) fun v24 =>
 ob (rNil x0) fun v25 =>
 ob (rFld 0 v25) fun v26 =>
 ob (rLd1 h.get v26) fun v27 =>
 ob (bI .sub v3 (.int .i64 1)) fun v28 =>
 ob (rIdxS 2 v27 v28) fun v29 =>
 ob (rIdxA 2 1 v29 (.int .i64 1)) fun v30 =>
 ob (rLd1 h.get v30) fun v31 =>
 ob (foldMM true v31 [x2]) fun v32 =>
 ob (rIdxS 2 v23 v24) fun v33 =>
 ob (rIdxA 2 1 v33 (.int .i64 1)) fun v34 =>
 hv (rStore h 1 v34 v32) fun v35 h36 l37 =>
 dr [0, 1, 3, 7, 0, 16, 0, 64, 192, 448, 0, 1024, 4032, 8128, 16320, 0, 65472, 63, 262143, 524287] [mP h, mP h, mP h, mR h (rdP v22), mP h, mP h, mP h, mP h, mP h, mR h (rdP v26), mP h, mP h, mP h, mP h, mR h (rdP v30), mP h, mR h (rdL [v31, x2]), mP h, mP h, mH h [] l37 h36] fun l38 =>
 j17 [] h36 (l38 ++ []))
 (ob (bI .lss x1 x2) fun v39 =>
 jn3 (fun vs41 h42 l43 =>
 j17 [] h42 l43) fun j40 => fork v39
 (ob (rNil x0) fun v44 =>
 ob (rFld 0 v44) fun v45 =>
 ob (rLd1 h.get v45) fun v46 =>
 ob (oBuild pgB T_A2i64 [(0, x1), (1, x2)]) fun v47 =>
 al (aBuildS pgB h.n T_LA2i64 1 [(0, v47)]) h fun v48 h49 =>
 hv (rApp h49 T_A2i64 2 16 [(.int .i64 0), (.int .i64 0)] v46 v48) fun v50 h51 l52 =>
 ob (rNil x0) fun v53 =>
 ob (rFld 0 v53) fun v54 =>
 hv (rStore h51 1 v54 v50) fun v55 h56 l57 =>
 j40 [] h56 (l57 ++ (l52 ++ [])))
 (j40 [] h []))

-- 108 (asterism/asterismref8.Schema).Find
noncomputable def F_k108_L58 (call : CallF) (lp : LoopF) : List Value → H → Option LOut := fun vs4 h5 =>
 ob (rLenL (nt vs4 0)) fun v6 =>
 ob (bI .lss (nt vs4 3) v6) fun v7 =>
 jn3 (fun vs9 h10 l11 =>
 jn3 (fun vs13 h14 l15 =>
 ob (bI .add (nt vs13 3) (.int .i64 1)) fun v16 =>
 some ⟨.normal, [(nt vs13 0), (nt vs13 1), (nt vs13 2), v16], h14, l15⟩) fun j12 =>
 ob (rIdxS 4 (nt vs9 0) (nt vs9 3)) fun v17 =>
 ob (rFld 0 v17) fun v18 =>
 ob (rLd1 h10.get v18) fun v19 =>
 ob (binV pgB.ty (tyD .string) .eql v19 (nt vs9 1)) fun v20 =>
 jn3 (fun vs22 h23 l24 =>
 j12 [(nt vs22 0), (nt vs22 1), (nt vs22 2), (nt vs22 3)] h23 l24) fun j21 => fork v20
 (some ⟨.ret, [(nt vs9 0), (nt vs9 1), (nt vs9 3), (nt vs9 3)], h10, l11⟩)
 (j21 [(nt vs9 0), (nt vs9 1), (nt vs9 2), (nt vs9 3)] h10 l11)) fun j8 => fork v7
 (j8 [(nt vs4 0), (nt vs4 1), (nt vs4 2), (nt vs4 3)] h5 [])
 (some ⟨(.exit 0), [(nt vs4 0), (nt vs4 1), (nt vs4 2), (nt vs4 3)], h5, []⟩)
noncomputable def F_k108 (call : CallF) (lp : LoopF) (x0 : Value) (x1 : Value) (h : H) : Option (Value × H × List Nat) :=
 jn3 (fun vs1 h2 l3 =>
 fin h (rsT (.int .i64 (-1)) (some [])) h2 l3) fun j0 =>
 ob (lp (F_k108_L58 call lp) [x0, x1, (.int .i64 0), (.int .i64 0)] h) fun o25 =>
 onEx o25.ex (j0 [] o25.h (o25.lg ++ [])) (fun i26 => bif Nat.beq i26 0 then j0 [] o25.h (o25.lg ++ []) else none) (fin h (rsT (nt o25.vs 2) (some [])) o25.h (o25.lg ++ []))

-- 109 (*asterism/table.Table).Insert
noncomputable def F_k109_L250 (call : CallF) (lp : LoopF) : List Value → H → Option LOut := fun vs47 h48 =>
 ob (bI .lss (nt vs47 5) (nt vs47 4)) fun v49 =>
 jn3 (fun vs51 h52 l53 =>
 jn3 (fun vs55 h56 l57 =>
 ob (bI .add (nt vs55 5) (.int .i64 1)) fun v58 =>
 some ⟨.normal, [(nt vs55 0), (nt vs55 1), (nt vs55 2), (nt vs55 3), (nt vs55 4), v58], h56, l57⟩) fun j54 =>
 ob (rIdxS 3 (nt vs51 3) (nt vs51 5)) fun v59 =>
 ob (rLdA h52.get 3 v59) fun v60 =>
 al (aNew h52.n T_api_Value [(.int .i64 0), (.int .i64 0), (.string ⟨#[]⟩)]) h52 fun v61 h62 =>
 hv (rStore h62 3 v61 v60) fun v63 h64 l65 =>
 ob (rNil (nt vs51 0)) fun v66 =>
 ob (rFld 4 v66) fun v67 =>
 ob (rLd1 h64.get v67) fun v68 =>
 ob (rIdxS 1 v68 (nt vs51 5)) fun v69 =>
 ob (rLd1 h64.get v69) fun v70 =>
 ob (rLdA h64.get 3 v61) fun v71 =>
 hv (call (.fn N_k145) [v70, v71] h64) fun v72 h73 l74 =>
 dr [0, 1, 3, 7, 0, 31, 63, 0, 255] [mP h64, mP h64, mP h64, mR h64 (rdP v67), mP h64, mP h64, mR h64 (rdP v69), mR h64 (rdP v61), mH h64 (rdL [v70, v71]) l74 h73] fun l75 =>
 j54 [(nt vs51 0), (nt vs51 1), (nt vs51 2), (nt vs51 3), (nt vs51 4), (nt vs51 5)] h73 (l75 ++ (l65 ++ l53))) fun j50 => fork v49
 (j50 [(nt vs47 0), (nt vs47 1), (nt vs47 2), (nt vs47 3), (nt vs47 4), (nt vs47 5)] h48 [])
 (some ⟨(.exit 3), [(nt vs47 0), (nt vs47 1), (nt vs47 2), (nt vs47 3), (nt vs47 4), (nt vs47 5)], h48, []⟩)
noncomputable def F_k109_L122 (call : CallF) (lp : LoopF) : List Value → H → Option LOut := fun vs78 h79 =>
 ob (bI .lss (nt vs78 6) (nt vs78 5)) fun v80 =>
 jn3 (fun vs82 h83 l84 =>
 jn3 (fun vs86 h87 l88 =>
 ob (bI .add (nt vs86 6) (.int .i64 1)) fun v89 =>
 some ⟨.normal, [(nt vs86 0), (nt vs86 1), (nt vs86 2), (nt vs86 3), (nt vs86 4), (nt vs86 5), v89], h87, l88⟩) fun j85 =>
 ob (rIdxS 3 (nt vs82 4) (nt vs82 6)) fun v90 =>
 ob (rLdA h83.get 3 v90) fun v91 =>
 al (aNew h83.n T_api_Value [(.int .i64 0), (.int .i64 0), (.string ⟨#[]⟩)]) h83 fun v92 h93 =>
 hv (rStore h93 3 v92 v91) fun v94 h95 l96 =>
 ob (rLdA h95.get 3 v92) fun v97 =>
 hv (call (.fn N_k165) [(nt vs82 0), (nt vs82 6), v97] h95) fun v98 h99 l100 =>
 ob (unV .not v98) fun v101 =>
 jn3 (fun vs103 h104 l105 =>
 j85 [(nt vs103 0), (nt vs103 1), (nt vs103 2), (nt vs103 3), (nt vs103 4), (nt vs103 5), (nt vs103 6)] h104 l105) fun j102 => fork v101
 (some ⟨.ret, [(nt vs82 0), (nt vs82 1), (.int .i64 0), (.int .i64 4), (nt vs82 4), (nt vs82 5), (nt vs82 6)], h99, (l100 ++ (l96 ++ l84))⟩)
 (j102 [(nt vs82 0), (nt vs82 1), (nt vs82 2), (nt vs82 3), (nt vs82 4), (nt vs82 5), (nt vs82 6)] h99 (l100 ++ (l96 ++ l84)))) fun j81 => fork v80
 (j81 [(nt vs78 0), (nt vs78 1), (nt vs78 2), (nt vs78 3), (nt vs78 4), (nt vs78 5), (nt vs78 6)] h79 [])
 (some ⟨(.exit 1), [(nt vs78 0), (nt vs78 1), (nt vs78 2), (nt vs78 3), (nt vs78 4), (nt vs78 5), (nt vs78 6)], h79, []⟩)
noncomputable def F_k109 (call : CallF) (lp : LoopF) (x0 : Value) (x1 : Value) (h : H) : Option (Value × H × List Nat) :=
 jn3 (fun vs1 h2 l3 =>
 ob (rLenL (nt vs1 1)) fun v4 =>
 jn3 (fun vs6 h7 l8 =>
 ob (rLenL (nt vs6 1)) fun v9 =>
 jn3 (fun vs11 h12 l13 =>
 ob (rNil (nt vs11 0)) fun v14 =>
 ob (rFld 5 v14) fun v15 =>
 ob (rLdA h12.get 1 v15) fun v16 =>
 ob (rNil (nt vs11 0)) fun v17 =>
 ob (rFld 6 v17) fun v18 =>
 ob (rLd1 h12.get v18) fun v19 =>
 al (aBuildS pgB h12.n T_Li64 1 [(0, v19)]) h12 fun v20 h21 =>
 hv (call (.fn N_k58) [v20] h21) fun v22 h23 l24 =>
 hv (call (.fn N_k70) [v16, v22] h23) fun v25 h26 l27 =>
 ob (rNil (nt vs11 0)) fun v28 =>
 ob (rFld 5 v28) fun v29 =>
 hv (rStore h26 1 v29 v25) fun v30 h31 l32 =>
 dr [0, 0, 2, 6, 14, 0, 32, 96, 224, 480, 992, 2046, 4095, 8191, 16383] [mP h12, mP h12, mP h12, mP h12, mR h12 (rdP v15), mP h12, mP h12, mP h12, mR h12 (rdP v18), mA h12 [], mH h21 (rdL [v20]) l24 h23, mH h23 (rdL [v16, v22]) l27 h26, mP h26, mP h26, mH h26 [] l32 h31] fun l33 =>
 ob (rNil (nt vs11 0)) fun v34 =>
 ob (rFld 6 v34) fun v35 =>
 ob (rLd1 h31.get v35) fun v36 =>
 ob (bI .add v36 (.int .i64 1)) fun v37 =>
 ob (rNil (nt vs11 0)) fun v38 =>
 ob (rFld 6 v38) fun v39 =>
 hv (rStore h31 1 v39 v37) fun v40 h41 l42 =>
 ob (rNil (nt vs11 0)) fun v43 =>
 ob (rFld 6 v43) fun v44 =>
 ob (rLd1 h41.get v44) fun v45 =>
 ob (bI .sub v45 (.int .i64 1)) fun v46 =>
 fin h (rsT v46 (rsT (.int .i64 0) (some []))) h41 (l42 ++ (l33 ++ l13))) fun j10 =>
 ob (lp (F_k109_L250 call lp) [(nt vs6 0), (nt vs6 2), (nt vs6 3), (nt vs6 1), v9, (.int .i64 0)] h7) fun o76 =>
 onEx o76.ex (j10 [(nt o76.vs 0)] o76.h (o76.lg ++ l8)) (fun i77 => bif Nat.beq i77 3 then j10 [(nt o76.vs 0)] o76.h (o76.lg ++ l8) else none) (fin h (rsT (nt o76.vs 1) (rsT (nt o76.vs 2) (some []))) o76.h (o76.lg ++ l8))) fun j5 =>
 ob (lp (F_k109_L122 call lp) [(nt vs1 0), (nt vs1 1), (nt vs1 2), (nt vs1 3), (nt vs1 1), v4, (.int .i64 0)] h2) fun o106 =>
 onEx o106.ex (j5 [(nt o106.vs 0), (nt o106.vs 1), (nt o106.vs 2), (nt o106.vs 3)] o106.h (o106.lg ++ l3)) (fun i107 => bif Nat.beq i107 1 then j5 [(nt o106.vs 0), (nt o106.vs 1), (nt o106.vs 2), (nt o106.vs 3)] o106.h (o106.lg ++ l3) else none) (fin h (rsT (nt o106.vs 2) (rsT (nt o106.vs 3) (some []))) o106.h (o106.lg ++ l3))) fun j0 =>
 ob (binV pgB.ty (tyD (.pointer 0)) .eql x0 (.pointer none)) fun v108 =>
 jn3 (fun vs110 h111 l112 =>
 j0 [(nt vs110 0), (nt vs110 1), (nt vs110 2), (nt vs110 3)] h111 l112) fun j109 => fork v108
 (fin h (rsT (.int .i64 0) (rsT (.int .i64 6) (some []))) h [])
 (ob (rNil x0) fun v113 =>
 ob (rFld 6 v113) fun v114 =>
 ob (rLd1 h.get v114) fun v115 =>
 ob (bI .geq v115 (.int .i64 65536)) fun v116 =>
 jn3 (fun vs118 h119 l120 =>
 j109 [(nt vs118 0), (nt vs118 1), (nt vs118 2), (nt vs118 3)] h119 l120) fun j117 => fork v116
 (fin h (rsT (.int .i64 0) (rsT (.int .i64 5) (some []))) h [])
 (ob (rLenL x1) fun v121 =>
 ob (rNil x0) fun v122 =>
 ob (rFld 4 v122) fun v123 =>
 ob (rLd1 h.get v123) fun v124 =>
 ob (rLenL v124) fun v125 =>
 ob (bI .neq v121 v125) fun v126 =>
 jn3 (fun vs128 h129 l130 =>
 j117 [(nt vs128 0), (nt vs128 1), (nt vs128 2), (nt vs128 3)] h129 l130) fun j127 => fork v126
 (fin h (rsT (.int .i64 0) (rsT (.int .i64 1) (some []))) h [])
 (j127 [x0, x1, (.int .i64 0), (.int .i64 0)] h [])))

-- 110 (*asterism/asterismref12.DB).Insert
noncomputable def F_k110_L250 (call : CallF) (lp : LoopF) : List Value → H → Option LOut := fun vs64 h65 =>
 ob (rLenL (nt vs64 2)) fun v66 =>
 ob (bI .lss (nt vs64 5) v66) fun v67 =>
 jn3 (fun vs69 h70 l71 =>
 jn3 (fun vs73 h74 l75 =>
 ob (bI .add (nt vs73 5) (.int .i64 1)) fun v76 =>
 some ⟨.normal, [(nt vs73 0), (nt vs73 1), (nt vs73 2), (nt vs73 3), (nt vs73 4), v76], h74, l75⟩) fun j72 =>
 ob (rIdxS 3 (nt vs69 2) (nt vs69 5)) fun v77 =>
 ob (rLdA h70.get 3 v77) fun v78 =>
 ob (rNil (nt vs69 0)) fun v79 =>
 ob (rFld 0 v79) fun v80 =>
 ob (rLd1 h70.get v80) fun v81 =>
 ob (rIdxS 4 v81 (nt vs69 1)) fun v82 =>
 ob (rFld 1 v82) fun v83 =>
 ob (rLd1 h70.get v83) fun v84 =>
 ob (rIdxS 4 v84 (nt vs69 5)) fun v85 =>
 ob (rLdA h70.get 4 v85) fun v86 =>
 hv (call (.fn N_k166) [v78, v86] h70) fun v87 h88 l89 =>
 ob (unV .not v87) fun v90 =>
 dr [0, 0, 3, 7, 0, 16, 48, 112, 0, 496, 1008, 2032, 0, 8176, 16368, 32767, 65535] [mP h70, mP h70, mP h70, mR h70 (rdP v77), mP h70, mP h70, mP h70, mR h70 (rdP v80), mP h70, mP h70, mP h70, mR h70 (rdP v83), mP h70, mP h70, mR h70 (rdP v85), mH h70 (rdL [v78, v86]) l89 h88, mP h88] fun l91 =>
 jn3 (fun vs93 h94 l95 =>
 j72 [(nt vs93 0), (nt vs93 1), (nt vs93 2), (nt vs93 3), (nt vs93 4), (nt vs93 5)] h94 l95) fun j92 => fork v90
 (some ⟨.ret, [(nt vs69 0), (nt vs69 1), (nt vs69 2), (.int .i64 0), (.int .i64 4), (nt vs69 5)], h88, (l91 ++ l71)⟩)
 (j92 [(nt vs69 0), (nt vs69 1), (nt vs69 2), (nt vs69 3), (nt vs69 4), (nt vs69 5)] h88 (l91 ++ l71))) fun j68 => fork v67
 (j68 [(nt vs64 0), (nt vs64 1), (nt vs64 2), (nt vs64 3), (nt vs64 4), (nt vs64 5)] h65 [])
 (some ⟨(.exit 0), [(nt vs64 0), (nt vs64 1), (nt vs64 2), (nt vs64 3), (nt vs64 4), (nt vs64 5)], h65, []⟩)
noncomputable def F_k110 (call : CallF) (lp : LoopF) (x0 : Value) (x1 : Value) (x2 : Value) (h : H) : Option (Value × H × List Nat) :=
 ob (rNil x0) fun v0 =>
 ob (rFld 2 v0) fun v1 =>
 ob (rLd1 h.get v1) fun v2 =>
 ob (rIdxS 1 v2 x1) fun v3 =>
 ob (rLd1 h.get v3) fun v4 =>
 ob (bI .geq v4 (.int .i64 65536)) fun v5 =>
 jn3 (fun vs7 h8 l9 =>
 ob (rLenL (nt vs7 2)) fun v10 =>
 ob (rNil (nt vs7 0)) fun v11 =>
 ob (rFld 0 v11) fun v12 =>
 ob (rLd1 h8.get v12) fun v13 =>
 ob (rIdxS 4 v13 (nt vs7 1)) fun v14 =>
 ob (rFld 1 v14) fun v15 =>
 ob (rLd1 h8.get v15) fun v16 =>
 ob (rLenL v16) fun v17 =>
 ob (bI .neq v10 v17) fun v18 =>
 jn3 (fun vs20 h21 l22 =>
 jn3 (fun vs24 h25 l26 =>
 ob (rNil (nt vs24 0)) fun v27 =>
 ob (rFld 2 v27) fun v28 =>
 ob (rLd1 h25.get v28) fun v29 =>
 ob (rIdxS 1 v29 (nt vs24 1)) fun v30 =>
 ob (rLd1 h25.get v30) fun v31 =>
 ob (rNil (nt vs24 0)) fun v32 =>
 ob (rFld 2 v32) fun v33 =>
 ob (rLd1 h25.get v33) fun v34 =>
 ob (rIdxS 1 v34 (nt vs24 1)) fun v35 =>
 ob (rLd1 h25.get v35) fun v36 =>
 ob (bI .add v36 (.int .i64 1)) fun v37 =>
 ob (rIdxS 1 v34 (nt vs24 1)) fun v38 =>
 hv (rStore h25 1 v38 v37) fun v39 h40 l41 =>
 ob (rNil (nt vs24 0)) fun v42 =>
 ob (rFld 1 v42) fun v43 =>
 ob (rLd1 h40.get v43) fun v44 =>
 ob (rNil (nt vs24 0)) fun v45 =>
 ob (rFld 1 v45) fun v46 =>
 ob (rLd1 h40.get v46) fun v47 =>
 ob (rIdxS 1 v47 (nt vs24 1)) fun v48 =>
 ob (rLd1 h40.get v48) fun v49 =>
 hv (rApp h40 T_api_Value 3 32 [(.int .i64 0), (.int .i64 0), (.string ⟨#[]⟩)] (.slice none 0 0) (nt vs24 2)) fun v50 h51 l52 =>
 ob (oBuild pgB T_asterismref12_Row [(0, v31), (1, v50)]) fun v53 =>
 al (aBuildS pgB h51.n T_Lasterismref12_Row 1 [(0, v53)]) h51 fun v54 h55 =>
 hv (rApp h55 T_asterismref12_Row 2 32 [(.int .i64 0), (.slice none 0 0)] v49 v54) fun v56 h57 l58 =>
 ob (rIdxS 1 v44 (nt vs24 1)) fun v59 =>
 hv (rStore h57 1 v59 v56) fun v60 h61 l62 =>
 dr [0, 1, 3, 7, 0, 0, 32, 96, 224, 0, 992, 2016, 0, 0, 8192, 28672, 61440, 131040, 262143, 524287] [mP h40, mP h40, mP h40, mR h40 (rdP v43), mP h40, mP h40, mP h40, mP h40, mR h40 (rdP v46), mP h40, mP h40, mR h40 (rdP v48), mP h40, mP h40, mH h40 (rdL [(.slice none 0 0), (nt vs24 2)]) l52 h51, mP h51, mA h51 [], mH h55 (rdL [v49, v54]) l58 h57, mP h57, mH h57 [] l62 h61] fun l63 =>
 fin h (rsT v31 (rsT (.int .i64 0) (some []))) h61 (l63 ++ (l41 ++ l26))) fun j23 =>
 ob (lp (F_k110_L250 call lp) [(nt vs20 0), (nt vs20 1), (nt vs20 2), (nt vs20 3), (nt vs20 4), (.int .i64 0)] h21) fun o96 =>
 onEx o96.ex (j23 [(nt o96.vs 0), (nt o96.vs 1), (nt o96.vs 2)] o96.h (o96.lg ++ l22)) (fun i97 => bif Nat.beq i97 0 then j23 [(nt o96.vs 0), (nt o96.vs 1), (nt o96.vs 2)] o96.h (o96.lg ++ l22) else none) (fin h (rsT (nt o96.vs 3) (rsT (nt o96.vs 4) (some []))) o96.h (o96.lg ++ l22))) fun j19 => fork v18
 (fin h (rsT (.int .i64 0) (rsT (.int .i64 1) (some []))) h8 l9)
 (j19 [(nt vs7 0), (nt vs7 1), (nt vs7 2), (nt vs7 3), (nt vs7 4)] h8 l9)) fun j6 => fork v5
 (fin h (rsT (.int .i64 0) (rsT (.int .i64 5) (some []))) h [])
 (j6 [x0, x1, x2, (.int .i64 0), (.int .i64 0)] h [])

-- 112 (*asterism/table.Table).Set
noncomputable def F_k112 (call : CallF) (lp : LoopF) (x0 : Value) (x1 : Value) (x2 : Value) (x3 : Value) (h : H) : Option (Value × H × List Nat) :=
 al (aBx h.n T_api_Value 3 x3) h fun v0 h1 =>
 hv (call (.fn N_k132) [x0, x2] h1) fun v2 h3 l4 =>
 jn3 (fun vs6 h7 l8 =>
 ob (rNil (nt vs6 0)) fun v9 =>
 ob (rFld 4 v9) fun v10 =>
 ob (rLd1 h7.get v10) fun v11 =>
 ob (rIdxS 1 v11 (nt vs6 3)) fun v12 =>
 ob (rLd1 h7.get v12) fun v13 =>
 ob (rLdA h7.get 3 (nt vs6 2)) fun v14 =>
 hv (call (.fn N_k115) [v13, (nt vs6 1), v14] h7) fun v15 h16 l17 =>
 dr [0, 1, 3, 7, 0, 31, 63, 0, 0, 511] [mP h7, mP h7, mP h7, mR h7 (rdP v10), mP h7, mP h7, mR h7 (rdP v12), mP h7, mR h7 (rdP (nt vs6 2)), mH h7 (rdL [v13, (nt vs6 1), v14]) l17 h16] fun l18 =>
 fin h (rsT (.int .i64 0) (some [])) h16 (l18 ++ l8)) fun j5 =>
 ob (binV pgB.ty (tyD (.pointer 0)) .eql x0 (.pointer none)) fun v19 =>
 gP (gd v19 false) (some x0) fun v20 =>
 gP (gd v19 false) (rNil v20) fun v21 =>
 gP (gd v19 false) (rFld 5 v21) fun v22 =>
 gP (gd v19 false) (rLdA h3.get 1 v22) fun v23 =>
 gP (gd v19 false) (some x1) fun v24 =>
 hv (gV (gd v19 false) (call (.fn N_k65) [v23, v24] h3) h3) fun v25 h26 l27 =>
 gP (gd v19 false) (unV .not v25) fun v28 =>
 ob (rPick v19 (.bool true) v28) fun v29 =>
 jn3 (fun vs31 h32 l33 =>
 j5 [(nt vs31 0), (nt vs31 1), (nt vs31 2), (nt vs31 3)] h32 l33) fun j30 => fork v29
 (fin h (rsT (.int .i64 6) (some [])) h26 (l27 ++ (l4 ++ [])))
 (ob (bI .lss v2 (.int .i64 0)) fun v34 =>
 jn3 (fun vs36 h37 l38 =>
 j30 [(nt vs36 0), (nt vs36 1), (nt vs36 2), (nt vs36 3)] h37 l38) fun j35 => fork v34
 (fin h (rsT (.int .i64 3) (some [])) h26 (l27 ++ (l4 ++ [])))
 (ob (rLdA h26.get 3 v0) fun v39 =>
 hv (call (.fn N_k165) [x0, v2, v39] h26) fun v40 h41 l42 =>
 ob (unV .not v40) fun v43 =>
 jn3 (fun vs45 h46 l47 =>
 j35 [(nt vs45 0), (nt vs45 1), (nt vs45 2), (nt vs45 3)] h46 l47) fun j44 => fork v43
 (fin h (rsT (.int .i64 4) (some [])) h41 (l42 ++ (l27 ++ (l4 ++ []))))
 (j44 [x0, x1, v0, v2] h41 (l42 ++ (l27 ++ (l4 ++ []))))))

-- 114 asterism/bitmap.Without
noncomputable def F_k114 (call : CallF) (lp : LoopF) (x0 : Value) (x1 : Value) (h : H) : Option (Value × H × List Nat) :=
 al (aBx h.n T_bitmap_Map 1 x0) h fun v0 h1 =>
 al (aBx h1.n T_bitmap_Map 1 x1) h1 fun v2 h3 =>
 al (aNew h3.n T_bitmap_Map [(.slice none 0 0)]) h3 fun v4 h5 =>
 ob (rLdA h5.get 1 v0) fun v6 =>
 ob (rLdA h5.get 1 v2) fun v7 =>
 hv (call (.fn N_k169) [v7, (.int .i64 65536)] h5) fun v8 h9 l10 =>
 hv (call (.fn N_k168) [v6, v8] h9) fun v11 h12 l13 =>
 hv (rStore h12 1 v4 v11) fun v14 h15 l16 =>
 dr [0, 0, 2, 7, 15] [mR h5 (rdP v0), mR h5 (rdP v2), mH h5 (rdL [v7, (.int .i64 65536)]) l10 h9, mH h9 (rdL [v6, v8]) l13 h12, mH h12 [] l16 h15] fun l17 =>
 fin h (rsK (rLdA h15.get 1 v4) (some [])) h15 (l17 ++ [])

-- 115 (*asterism/column.Column).Set
noncomputable def F_k115 (call : CallF) (lp : LoopF) (x0 : Value) (x1 : Value) (x2 : Value) (h : H) : Option (Value × H × List Nat) :=
 al (aBx h.n T_api_Value 3 x2) h fun v0 h1 =>
 ob (rLdA h1.get 3 v0) fun v2 =>
 hv (call (.fn N_k170) [x0, v2] h1) fun v3 h4 l5 =>
 ob (unV .not v3) fun v6 =>
 gP (gd v6 false) (some x1) fun v7 =>
 gP (gd v6 false) (bI .lss v7 (.int .i64 0)) fun v8 =>
 ob (rPick v6 (.bool true) v8) fun v9 =>
 gP (gd v9 false) (some x1) fun v10 =>
 gP (gd v9 false) (some x0) fun v11 =>
 gP (gd v9 false) (rNil v11) fun v12 =>
 gP (gd v9 false) (rFld 1 v12) fun v13 =>
 gP (gd v9 false) (rLd1 h4.get v13) fun v14 =>
 gP (gd v9 false) (rLenL v14) fun v15 =>
 gP (gd v9 false) (bI .geq v10 v15) fun v16 =>
 ob (rPick v9 (.bool true) v16) fun v17 =>
 jn3 (fun vs19 h20 l21 =>
 ob (rNil (nt vs19 0)) fun v22 =>
 ob (rFld 1 v22) fun v23 =>
 ob (rLd1 h20.get v23) fun v24 =>
 ob (rIdxS 3 v24 (nt vs19 1)) fun v25 =>
 ob (rLdA h20.get 3 v25) fun v26 =>
 al (aNew h20.n T_api_Value [(.int .i64 0), (.int .i64 0), (.string ⟨#[]⟩)]) h20 fun v27 h28 =>
 hv (rStore h28 3 v27 v26) fun v29 h30 l31 =>
 ob (rFld 0 v27) fun v32 =>
 ob (rLd1 h30.get v32) fun v33 =>
 jn3 (fun vs35 h36 l37 =>
 ob (rNil (nt vs35 0)) fun v38 =>
 ob (rFld 1 v38) fun v39 =>
 ob (rLd1 h36.get v39) fun v40 =>
 ob (rLdA h36.get 3 (nt vs35 2)) fun v41 =>
 ob (rIdxS 3 v40 (nt vs35 1)) fun v42 =>
 hv (rStore h36 3 v42 v41) fun v43 h44 l45 =>
 dr [0, 1, 3, 7, 0, 0, 63, 127] [mP h36, mP h36, mP h36, mR h36 (rdP v39), mP h36, mR h36 (rdP (nt vs35 2)), mP h36, mH h36 [] l45 h44] fun l46 =>
 ob (rLdA h44.get 3 (nt vs35 2)) fun v47 =>
 hv (call (.fn N_k172) [(nt vs35 0), v47] h44) fun v48 h49 l50 =>
 fin h (rsT (.bool true) (some [])) h49 (l50 ++ (l46 ++ l37))) fun j34 =>
 ob (bI .eql v33 (.int .i64 0)) fun v51 =>
 jn3 (fun vs53 h54 l55 =>
 j34 [(nt vs53 0), (nt vs53 1), (nt vs53 2)] h54 l55) fun j52 => fork v51
 (ob (rNil (nt vs19 0)) fun v56 =>
 ob (rFld 3 v56) fun v57 =>
 ob (rLd1 h30.get v57) fun v58 =>
 ob (bI .sub v58 (.int .i64 1)) fun v59 =>
 ob (rNil (nt vs19 0)) fun v60 =>
 ob (rFld 3 v60) fun v61 =>
 hv (rStore h30 1 v61 v59) fun v62 h63 l64 =>
 j52 [(nt vs19 0), (nt vs19 1), (nt vs19 2)] h63 (l64 ++ (l31 ++ l21)))
 (ob (bI .eql v33 (.int .i64 2)) fun v65 =>
 jn3 (fun vs67 h68 l69 =>
 j52 [(nt vs67 0), (nt vs67 1), (nt vs67 2)] h68 l69) fun j66 => fork v65
 (ob (rNil (nt vs19 0)) fun v70 =>
 ob (rFld 2 v70) fun v71 =>
 ob (rFld 2 v27) fun v72 =>
 ob (rLd1 h30.get v72) fun v73 =>
 hv (call (.fn N_k171) [v71, v73] h30) fun v74 h75 l76 =>
 dr [0, 1, 3, 0, 8, 31] [mP h30, mP h30, mP h30, mP h30, mR h30 (rdP v72), mH h30 (rdL [v71, v73]) l76 h75] fun l77 =>
 j66 [(nt vs19 0), (nt vs19 1), (nt vs19 2)] h75 (l77 ++ (l31 ++ l21)))
 (j66 [(nt vs19 0), (nt vs19 1), (nt vs19 2)] h30 (l31 ++ l21)))) fun j18 => fork v17
 (fin h (rsT (.bool false) (some [])) h4 (l5 ++ []))
 (j18 [x0, x1, v0] h4 (l5 ++ []))

-- 116 slices.ContainsFunc[[][2]int,[2]int]
noncomputable def F_k116 (call : CallF) (lp : LoopF) (x0 : Value) (x1 : Value) (h : H) : Option (Value × H × List Nat) :=
 hv (call (.fn N_k173) [x0, x1] h) fun v0 h1 l2 =>
 ob (bI .geq v0 (.int .i64 0)) fun v3 =>
 fin h (rsT v3 (some [])) h1 (l2 ++ [])

-- 117 (asterism/bitmap.Map).Has$1
noncomputable def F_k117 (call : CallF) (lp : LoopF) (x0 : Value) (x1 : Value) (h : H) : Option (Value × H × List Nat) :=
 al (aBx h.n T_A2i64 2 x0) h fun v0 h1 =>
 ob (rLd1 h1.get x1) fun v2 =>
 ob (rIdxA 2 1 v0 (.int .i64 0)) fun v3 =>
 ob (rLd1 h1.get v3) fun v4 =>
 ob (bI .geq v2 v4) fun v5 =>
 gP (gd v5 true) (rLd1 h1.get x1) fun v6 =>
 gP (gd v5 true) (rIdxA 2 1 v0 (.int .i64 1)) fun v7 =>
 gP (gd v5 true) (rLd1 h1.get v7) fun v8 =>
 gP (gd v5 true) (bI .lss v6 v8) fun v9 =>
 ob (rPick v5 v9 (.bool false)) fun v10 =>
 fin h (rsT v10 (some [])) h1 []

-- 118 (*asterism/omap.Map[asterism/api.Value, asterism/bitmap.Map]).All$1
noncomputable def F_k118_L14 (call : CallF) (lp : LoopF) : List Value → H → Option LOut := fun vs4 h5 =>
 ob (rLd1 h5.get (nt vs4 1)) fun v6 =>
 hv (call (.fn N_k119) [v6] h5) fun v7 h8 l9 =>
 ob (bI .lss (nt vs4 2) v7) fun v10 =>
 jn3 (fun vs12 h13 l14 =>
 jn3 (fun vs16 h17 l18 =>
 ob (bI .add (nt vs16 2) (.int .i64 1)) fun v19 =>
 some ⟨.normal, [(nt vs16 0), (nt vs16 1), v19], h17, l18⟩) fun j15 =>
 ob (rLd1 h13.get (nt vs12 1)) fun v20 =>
 ob (rNil v20) fun v21 =>
 ob (rFld 1 v21) fun v22 =>
 ob (rLd1 h13.get v22) fun v23 =>
 ob (rIdxS 4 v23 (nt vs12 2)) fun v24 =>
 ob (rFld 0 v24) fun v25 =>
 ob (rLdA h13.get 3 v25) fun v26 =>
 ob (rLd1 h13.get (nt vs12 1)) fun v27 =>
 ob (rNil v27) fun v28 =>
 ob (rFld 1 v28) fun v29 =>
 ob (rLd1 h13.get v29) fun v30 =>
 ob (rIdxS 4 v30 (nt vs12 2)) fun v31 =>
 ob (rFld 3 v31) fun v32 =>
 ob (rLdA h13.get 1 v32) fun v33 =>
 hv (callV call h13 (nt vs12 0) [v26, v33]) fun v34 h35 l36 =>
 ob (unV .not v34) fun v37 =>
 dr [0, 0, 2, 6, 14, 0, 62, 126, 254, 0, 512, 1536, 3584, 0, 15872, 32256, 65024, 131071, 262143] [mP h13, mR h13 (rdP (nt vs12 1)), mP h13, mP h13, mR h13 (rdP v22), mP h13, mP h13, mP h13, mR h13 (rdP v25), mR h13 (rdP (nt vs12 1)), mP h13, mP h13, mR h13 (rdP v29), mP h13, mP h13, mP h13, mR h13 (rdP v32), mH h13 (rdL [v26, v33]) l36 h35, mP h35] fun l38 =>
 jn3 (fun vs40 h41 l42 =>
 j15 [(nt vs40 0), (nt vs40 1), (nt vs40 2)] h41 l42) fun j39 => fork v37
 (some ⟨.ret, [(nt vs12 0), (nt vs12 1), (nt vs12 2)], h35, (l38 ++ l14)⟩)
 (j39 [(nt vs12 0), (nt vs12 1), (nt vs12 2)] h35 (l38 ++ l14))) fun j11 => fork v10
 (j11 [(nt vs4 0), (nt vs4 1), (nt vs4 2)] h8 (l9 ++ []))
 (some ⟨(.exit 0), [(nt vs4 0), (nt vs4 1), (nt vs4 2)], h8, (l9 ++ [])⟩)
noncomputable def F_k118 (call : CallF) (lp : LoopF) (x0 : Value) (x1 : Value) (h : H) : Option (Value × H × List Nat) :=
 jn3 (fun vs1 h2 l3 =>
 fin h (some []) h2 l3) fun j0 =>
 ob (lp (F_k118_L14 call lp) [x0, x1, (.int .i64 0)] h) fun o43 =>
 onEx o43.ex (j0 [] o43.h (o43.lg ++ [])) (fun i44 => bif Nat.beq i44 0 then j0 [] o43.h (o43.lg ++ []) else none) (fin h (some []) o43.h (o43.lg ++ []))

-- 119 (*asterism/omap.Map[asterism/api.Value, asterism/bitmap.Map]).Len
noncomputable def F_k119 (call : CallF) (lp : LoopF) (x0 : Value) (h : H) : Option (Value × H × List Nat) :=
 ob (binV pgB.ty (tyD (.pointer 0)) .eql x0 (.pointer none)) fun v0 =>
 jn3 (fun vs2 h3 l4 =>
 ob (rNil (nt vs2 0)) fun v5 =>
 ob (rFld 1 v5) fun v6 =>
 ob (rLd1 h3.get v6) fun v7 =>
 ob (rLenL v7) fun v8 =>
 fin h (rsT v8 (some [])) h3 l4) fun j1 => fork v0
 (fin h (rsT (.int .i64 0) (some [])) h [])
 (j1 [x0] h [])

-- 120 slices.Concat[[][2]int,[2]int]
noncomputable def F_k120_L506 (call : CallF) (lp : LoopF) : List Value → H → Option LOut := fun vs13 h14 =>
 ob (bI .lss (nt vs13 4) (nt vs13 3)) fun v15 =>
 jn3 (fun vs17 h18 l19 =>
 jn3 (fun vs21 h22 l23 =>
 ob (bI .add (nt vs21 4) (.int .i64 1)) fun v24 =>
 some ⟨.normal, [(nt vs21 0), (nt vs21 1), (nt vs21 2), (nt vs21 3), v24], h22, l23⟩) fun j20 =>
 ob (rIdxS 1 (nt vs17 2) (nt vs17 4)) fun v25 =>
 ob (rLd1 h18.get v25) fun v26 =>
 hv (rApp h18 T_A2i64 2 16 [(.int .i64 0), (.int .i64 0)] (nt vs17 1) v26) fun v27 h28 l29 =>
 j20 [(nt vs17 0), v27, (nt vs17 2), (nt vs17 3), (nt vs17 4)] h28 (l29 ++ l19)) fun j16 => fork v15
 (j16 [(nt vs13 0), (nt vs13 1), (nt vs13 2), (nt vs13 3), (nt vs13 4)] h14 [])
 (some ⟨(.exit 2), [(nt vs13 0), (nt vs13 1), (nt vs13 2), (nt vs13 3), (nt vs13 4)], h14, []⟩)
noncomputable def F_k120_L122 (call : CallF) (lp : LoopF) : List Value → H → Option LOut := fun vs32 h33 =>
 ob (bI .lss (nt vs32 5) (nt vs32 4)) fun v34 =>
 jn3 (fun vs36 h37 l38 =>
 jn3 (fun vs40 h41 l42 =>
 ob (bI .add (nt vs40 5) (.int .i64 1)) fun v43 =>
 some ⟨.normal, [(nt vs40 0), (nt vs40 1), (nt vs40 2), (nt vs40 3), (nt vs40 4), v43], h41, l42⟩) fun j39 =>
 ob (rIdxS 1 (nt vs36 3) (nt vs36 5)) fun v44 =>
 ob (rLd1 h37.get v44) fun v45 =>
 ob (rLenL v45) fun v46 =>
 ob (bI .add (nt vs36 2) v46) fun v47 =>
 ob (bI .lss v47 (.int .i64 0)) fun v48 =>
 jn3 (fun vs50 h51 l52 =>
 j39 [(nt vs50 0), (nt vs50 1), (nt vs50 2), (nt vs50 3), (nt vs50 4), (nt vs50 5)] h51 l52) fun j49 => fork v48
 (hv (none) fun v53 h54 l55 =>
 hv (none) fun v56 h57 l58 =>
 j49 [(nt vs36 0), (nt vs36 1), v47, (nt vs36 3), (nt vs36 4), (nt vs36 5)] h57 (l58 ++ (l55 ++ l38)))
 (j49 [(nt vs36 0), (nt vs36 1), v47, (nt vs36 3), (nt vs36 4), (nt vs36 5)] h37 l38)) fun j35 => fork v34
 (j35 [(nt vs32 0), (nt vs32 1), (nt vs32 2), (nt vs32 3), (nt vs32 4), (nt vs32 5)] h33 [])
 (some ⟨(.exit 0), [(nt vs32 0), (nt vs32 1), (nt vs32 2), (nt vs32 3), (nt vs32 4), (nt vs32 5)], h33, []⟩)
noncomputable def F_k120 (call : CallF) (lp : LoopF) (x0 : Value) (h : H) : Option (Value × H × List Nat) :=
 ob (rLenL x0) fun v0 =>
 jn3 (fun vs2 h3 l4 =>
 hv (call (.fn N_k174) [(.slice none 0 0), (nt vs2 2)] h3) fun v5 h6 l7 =>
 ob (rLenL (nt vs2 0)) fun v8 =>
 jn3 (fun vs10 h11 l12 =>
 fin h (rsT (nt vs10 0) (some [])) h11 l12) fun j9 =>
 ob (lp (F_k120_L506 call lp) [(nt vs2 1), v5, (nt vs2 0), v8, (.int .i64 0)] h6) fun o30 =>
 onEx o30.ex (j9 [(nt o30.vs 1)] o30.h (o30.lg ++ (l7 ++ l4))) (fun i31 => bif Nat.beq i31 2 then j9 [(nt o30.vs 1)] o30.h (o30.lg ++ (l7 ++ l4)) else none) (fin h (rsT (nt o30.vs 0) (some [])) o30.h (o30.lg ++ (l7 ++ l4)))) fun j1 =>
 ob (lp (F_k120_L122 call lp) [x0, (.slice none 0 0), (.int .i64 0), x0, v0, (.int .i64 0)] h) fun o59 =>
 onEx o59.ex (j1 [(nt o59.vs 0), (nt o59.vs 1), (nt o59.vs 2)] o59.h (o59.lg ++ [])) (fun i60 => bif Nat.beq i60 0 then j1 [(nt o59.vs 0), (nt o59.vs 1), (nt o59.vs 2)] o59.h (o59.lg ++ []) else none) (fin h (rsT (nt o59.vs 1) (some [])) o59.h (o59.lg ++ []))

-- 121 slices.SortFunc[[][2]int,[2]int]
noncomputable def F_k121 (call : CallF) (lp : LoopF) (x0 : Value) (x1 : Value) (h : H) : Option (Value × H × List Nat) :=
 ob (rLenL x0) fun v0 =>
 ob (rCvI .u64 v0) fun v1 =>
 hv (call (.fn N_k164) [v1] h) fun v2 h3 l4 =>
 hv (call (.fn N_k175) [x0, (.int .i64 0), v0, v2, x1] h3) fun v5 h6 l7 =>
 fin h (some []) h6 (l7 ++ (l4 ++ []))

-- 122 asterism/bitmap.Or$1
noncomputable def F_k122 (call : CallF) (lp : LoopF) (x0 : Value) (x1 : Value) (h : H) : Option (Value × H × List Nat) :=
 al (aBx h.n T_A2i64 2 x0) h fun v0 h1 =>
 al (aBx h1.n T_A2i64 2 x1) h1 fun v2 h3 =>
 ob (rIdxA 2 1 v0 (.int .i64 0)) fun v4 =>
 ob (rLd1 h3.get v4) fun v5 =>
 ob (rIdxA 2 1 v2 (.int .i64 0)) fun v6 =>
 ob (rLd1 h3.get v6) fun v7 =>
 ob (bI .sub v5 v7) fun v8 =>
 fin h (rsT v8 (some [])) h3 []

-- 123 asterism/asterismlaw13.num
noncomputable def F_k123 (call : CallF) (lp : LoopF) (x0 : Value) (h : H) : Option (Value × H × List Nat) :=
 al (aNew h.n T_api_Value [(.int .i64 0), (.int .i64 0), (.string ⟨#[]⟩)]) h fun v0 h1 =>
 ob (oBuild pgB T_api_Value [(0, (.int .i64 1)), (1, x0)]) fun v2 =>
 hv (rStore h1 3 v0 v2) fun v3 h4 l5 =>
 fin h (rsK (rLdA h4.get 3 v0) (some [])) h4 (l5 ++ [])

-- 124 asterism/asterismlaw13.text
noncomputable def F_k124 (call : CallF) (lp : LoopF) (x0 : Value) (h : H) : Option (Value × H × List Nat) :=
 al (aNew h.n T_api_Value [(.int .i64 0), (.int .i64 0), (.string ⟨#[]⟩)]) h fun v0 h1 =>
 ob (oBuild pgB T_api_Value [(0, (.int .i64 2)), (2, x0)]) fun v2 =>
 hv (rStore h1 3 v0 v2) fun v3 h4 l5 =>
 fin h (rsK (rLdA h4.get 3 v0) (some [])) h4 (l5 ++ [])

-- 125 asterism/asterismlaw12.Begun
noncomputable def F_k125 (call : CallF) (lp : LoopF) (h : H) : Option (Value × H × List Nat) :=
 hv (call (.fn N_k176) [] h) fun v0 h1 l2 =>
 fin h (rsT v0 (some [])) h1 (l2 ++ [])

-- 126 asterism/asterismlaw14.put
noncomputable def F_k126 (call : CallF) (lp : LoopF) (x0 : Value) (x1 : Value) (h : H) : Option (Value × H × List Nat) :=
 al (aNew h.n T_api_Op [(.int .i64 0), (.string ⟨#[]⟩), (.int .i64 0), (.string ⟨#[]⟩), (.slice none 0 0)]) h fun v0 h1 =>
 hv (rApp h1 T_api_Value 3 32 [(.int .i64 0), (.int .i64 0), (.string ⟨#[]⟩)] (.slice none 0 0) x1) fun v2 h3 l4 =>
 ob (oBuild pgB T_api_Op [(0, (.int .i64 1)), (1, x0), (4, v2)]) fun v5 =>
 hv (rStore h3 5 v0 v5) fun v6 h7 l8 =>
 fin h (rsK (rLdA h7.get 5 v0) (some [])) h7 (l8 ++ (l4 ++ []))

-- 127 asterism/asterismlaw14.num
noncomputable def F_k127 (call : CallF) (lp : LoopF) (x0 : Value) (h : H) : Option (Value × H × List Nat) :=
 al (aNew h.n T_api_Value [(.int .i64 0), (.int .i64 0), (.string ⟨#[]⟩)]) h fun v0 h1 =>
 ob (oBuild pgB T_api_Value [(0, (.int .i64 1)), (1, x0)]) fun v2 =>
 hv (rStore h1 3 v0 v2) fun v3 h4 l5 =>
 fin h (rsK (rLdA h4.get 3 v0) (some [])) h4 (l5 ++ [])

-- 128 asterism/asterismlaw14.text
noncomputable def F_k128 (call : CallF) (lp : LoopF) (x0 : Value) (h : H) : Option (Value × H × List Nat) :=
 al (aNew h.n T_api_Value [(.int .i64 0), (.int .i64 0), (.string ⟨#[]⟩)]) h fun v0 h1 =>
 ob (oBuild pgB T_api_Value [(0, (.int .i64 2)), (2, x0)]) fun v2 =>
 hv (rStore h1 3 v0 v2) fun v3 h4 l5 =>
 fin h (rsK (rLdA h4.get 3 v0) (some [])) h4 (l5 ++ [])

-- 129 slices.Clone[[]asterism/api.Col,asterism/api.Col]
noncomputable def F_k129 (call : CallF) (lp : LoopF) (x0 : Value) (h : H) : Option (Value × H × List Nat) :=
 ob (binV pgB.ty (tyD (.slice 0)) .eql x0 (.slice none 0 0)) fun v0 =>
 jn3 (fun vs2 h3 l4 =>
 al (aBuildS pgB h3.n T_Lapi_Col 0 []) h3 fun v5 h6 =>
 hv (rApp h6 T_api_Col 4 48 [(.string ⟨#[]⟩), (.int .i64 0), (.bool false), (.string ⟨#[]⟩)] v5 (nt vs2 0)) fun v7 h8 l9 =>
 fin h (rsT v7 (some [])) h8 (l9 ++ l4)) fun j1 => fork v0
 (fin h (rsT (.slice none 0 0) (some [])) h [])
 (j1 [x0] h [])

-- 130 slices.Clone[[]asterism/api.Dep,asterism/api.Dep]
noncomputable def F_k130 (call : CallF) (lp : LoopF) (x0 : Value) (h : H) : Option (Value × H × List Nat) :=
 ob (binV pgB.ty (tyD (.slice 0)) .eql x0 (.slice none 0 0)) fun v0 =>
 jn3 (fun vs2 h3 l4 =>
 al (aBuildS pgB h3.n T_Lapi_Dep 0 []) h3 fun v5 h6 =>
 hv (rApp h6 T_api_Dep 2 40 [(.slice none 0 0), (.string ⟨#[]⟩)] v5 (nt vs2 0)) fun v7 h8 l9 =>
 fin h (rsT v7 (some [])) h8 (l9 ++ l4)) fun j1 => fork v0
 (fin h (rsT (.slice none 0 0) (some [])) h [])
 (j1 [x0] h [])

-- 131 slices.Clone[[]string,string]
noncomputable def F_k131 (call : CallF) (lp : LoopF) (x0 : Value) (h : H) : Option (Value × H × List Nat) :=
 ob (binV pgB.ty (tyD (.slice 0)) .eql x0 (.slice none 0 0)) fun v0 =>
 jn3 (fun vs2 h3 l4 =>
 al (aBuildS pgB h3.n T_Lstring 0 []) h3 fun v5 h6 =>
 hv (rApp h6 T_string 1 16 [(.string ⟨#[]⟩)] v5 (nt vs2 0)) fun v7 h8 l9 =>
 fin h (rsT v7 (some [])) h8 (l9 ++ l4)) fun j1 => fork v0
 (fin h (rsT (.slice none 0 0) (some [])) h [])
 (j1 [x0] h [])

-- 132 (*asterism/table.Table).col
noncomputable def F_k132 (call : CallF) (lp : LoopF) (x0 : Value) (x1 : Value) (h : H) : Option (Value × H × List Nat) :=
 al (aBx h.n T_string 1 x1) h fun v0 h1 =>
 ob (binV pgB.ty (tyD (.pointer 0)) .eql x0 (.pointer none)) fun v2 =>
 jn3 (fun vs4 h5 l6 =>
 ob (rNil (nt vs4 0)) fun v7 =>
 ob (rFld 0 v7) fun v8 =>
 ob (rFld 1 v8) fun v9 =>
 ob (rLd1 h5.get v9) fun v10 =>
 ob (oFunc N_k178 #[] #[(nt vs4 1)]) fun v11 =>
 hv (call (.fn N_k177) [v10, v11] h5) fun v12 h13 l14 =>
 fin h (rsT v12 (some [])) h13 (l14 ++ l6)) fun j3 => fork v2
 (fin h (rsT (.int .i64 (-1)) (some [])) h1 [])
 (j3 [x0, v0] h1 [])

-- 133 (*asterism/column.Column).Words
noncomputable def F_k133 (call : CallF) (lp : LoopF) (x0 : Value) (h : H) : Option (Value × H × List Nat) :=
 ob (binV pgB.ty (tyD (.pointer 0)) .eql x0 (.pointer none)) fun v0 =>
 jn3 (fun vs2 h3 l4 =>
 ob (rNil (nt vs2 0)) fun v5 =>
 ob (rFld 2 v5) fun v6 =>
 hv (call (.fn N_k179) [v6] h3) fun v7 h8 l9 =>
 fin h (rsT v7 (some [])) h8 (l9 ++ l4)) fun j1 => fork v0
 (fin h (rsT (.int .i64 0) (some [])) h [])
 (j1 [x0] h [])

-- 134 (*asterism/column.Column).At
noncomputable def F_k134 (call : CallF) (lp : LoopF) (x0 : Value) (x1 : Value) (h : H) : Option (Value × H × List Nat) :=
 al (aNew h.n T_api_Value [(.int .i64 0), (.int .i64 0), (.string ⟨#[]⟩)]) h fun v0 h1 =>
 ob (bI .lss x1 (.int .i64 0)) fun v2 =>
 gP (gd v2 false) (some x1) fun v3 =>
 gP (gd v2 false) (some x0) fun v4 =>
 hv (gV (gd v2 false) (call (.fn N_k144) [v4] h1) h1) fun v5 h6 l7 =>
 gP (gd v2 false) (bI .geq v3 v5) fun v8 =>
 ob (rPick v2 (.bool true) v8) fun v9 =>
 jn3 (fun vs11 h12 l13 =>
 ob (rNil (nt vs11 0)) fun v14 =>
 ob (rFld 1 v14) fun v15 =>
 ob (rLd1 h12.get v15) fun v16 =>
 ob (rIdxS 3 v16 (nt vs11 1)) fun v17 =>
 ob (rLdA h12.get 3 v17) fun v18 =>
 hv (rStore h12 3 (nt vs11 2) v18) fun v19 h20 l21 =>
 fin h (rsK (rLdA h20.get 3 (nt vs11 2)) (rsT (.bool true) (some []))) h20 (l21 ++ l13)) fun j10 => fork v9
 (ob (oBuild pgB T_api_Value []) fun v22 =>
 hv (rStore h6 3 v0 v22) fun v23 h24 l25 =>
 fin h (rsK (rLdA h24.get 3 v0) (rsT (.bool false) (some []))) h24 (l25 ++ (l7 ++ [])))
 (j10 [x0, x1, v0] h6 (l7 ++ []))

-- 135 asterism/val.Eq
noncomputable def F_k135 (call : CallF) (lp : LoopF) (x0 : Value) (x1 : Value) (h : H) : Option (Value × H × List Nat) :=
 al (aBx h.n T_api_Value 3 x0) h fun v0 h1 =>
 al (aBx h1.n T_api_Value 3 x1) h1 fun v2 h3 =>
 ob (rLdA h3.get 3 v0) fun v4 =>
 ob (rLdA h3.get 3 v2) fun v5 =>
 hv (call (.fn N_k51) [v4, v5] h3) fun v6 h7 l8 =>
 ob (bI .eql v6 (.int .i64 0)) fun v9 =>
 fin h (rsT v9 (some [])) h7 (l8 ++ [])

-- 136 slices.IndexFunc[[]asterism/api.Table,asterism/api.Table]
noncomputable def F_k136_L58 (call : CallF) (lp : LoopF) : List Value → H → Option LOut := fun vs5 h6 =>
 ob (bI .lss (nt vs5 4) (nt vs5 3)) fun v7 =>
 jn3 (fun vs9 h10 l11 =>
 jn3 (fun vs13 h14 l15 =>
 ob (bI .add (nt vs13 4) (.int .i64 1)) fun v16 =>
 some ⟨.normal, [(nt vs13 0), (nt vs13 1), (nt vs13 2), (nt vs13 3), v16], h14, l15⟩) fun j12 =>
 ob (rIdxS 4 (nt vs9 0) (nt vs9 4)) fun v17 =>
 ob (rLdA h10.get 4 v17) fun v18 =>
 hv (callV call h10 (nt vs9 1) [v18]) fun v19 h20 l21 =>
 jn3 (fun vs23 h24 l25 =>
 j12 [(nt vs23 0), (nt vs23 1), (nt vs23 2), (nt vs23 3), (nt vs23 4)] h24 l25) fun j22 => fork v19
 (some ⟨.ret, [(nt vs9 0), (nt vs9 1), (nt vs9 4), (nt vs9 3), (nt vs9 4)], h20, (l21 ++ l11)⟩)
 (j22 [(nt vs9 0), (nt vs9 1), (nt vs9 2), (nt vs9 3), (nt vs9 4)] h20 (l21 ++ l11))) fun j8 => fork v7
 (j8 [(nt vs5 0), (nt vs5 1), (nt vs5 2), (nt vs5 3), (nt vs5 4)] h6 [])
 (some ⟨(.exit 0), [(nt vs5 0), (nt vs5 1), (nt vs5 2), (nt vs5 3), (nt vs5 4)], h6, []⟩)
noncomputable def F_k136 (call : CallF) (lp : LoopF) (x0 : Value) (x1 : Value) (h : H) : Option (Value × H × List Nat) :=
 ob (rLenL x0) fun v0 =>
 jn3 (fun vs2 h3 l4 =>
 fin h (rsT (.int .i64 (-1)) (some [])) h3 l4) fun j1 =>
 ob (lp (F_k136_L58 call lp) [x0, x1, (.int .i64 0), v0, (.int .i64 0)] h) fun o26 =>
 onEx o26.ex (j1 [] o26.h (o26.lg ++ [])) (fun i27 => bif Nat.beq i27 0 then j1 [] o26.h (o26.lg ++ []) else none) (fin h (rsT (nt o26.vs 2) (some [])) o26.h (o26.lg ++ []))

-- 137 (*asterism/schema.Schema).Find$1
noncomputable def F_k137 (call : CallF) (lp : LoopF) (x0 : Value) (x1 : Value) (h : H) : Option (Value × H × List Nat) :=
 al (aBx h.n T_api_Table 4 x0) h fun v0 h1 =>
 ob (rFld 0 v0) fun v2 =>
 ob (rLd1 h1.get v2) fun v3 =>
 ob (rLd1 h1.get x1) fun v4 =>
 ob (binV pgB.ty (tyD .string) .eql v3 v4) fun v5 =>
 fin h (rsT v5 (some [])) h1 []

-- 138 asterism/schema.copied
noncomputable def F_k138_L250 (call : CallF) (lp : LoopF) : List Value → H → Option LOut := fun vs33 h34 =>
 ob (bI .lss (nt vs33 3) (nt vs33 2)) fun v35 =>
 jn3 (fun vs37 h38 l39 =>
 jn3 (fun vs41 h42 l43 =>
 ob (bI .add (nt vs41 3) (.int .i64 1)) fun v44 =>
 some ⟨.normal, [(nt vs41 0), (nt vs41 1), (nt vs41 2), v44], h42, l43⟩) fun j40 =>
 ob (rFld 3 (nt vs37 0)) fun v45 =>
 ob (rLd1 h38.get v45) fun v46 =>
 ob (rFld 3 (nt vs37 0)) fun v47 =>
 ob (rLd1 h38.get v47) fun v48 =>
 ob (rIdxS 2 v48 (nt vs37 3)) fun v49 =>
 ob (rFld 0 v49) fun v50 =>
 ob (rLd1 h38.get v50) fun v51 =>
 hv (call (.fn N_k131) [v51] h38) fun v52 h53 l54 =>
 ob (rIdxS 2 v46 (nt vs37 3)) fun v55 =>
 ob (rFld 0 v55) fun v56 =>
 hv (rStore h53 1 v56 v52) fun v57 h58 l59 =>
 dr [0, 1, 0, 0, 8, 0, 56, 120, 248, 504, 1023, 2047, 4095] [mP h38, mR h38 (rdP v45), mP h38, mP h38, mR h38 (rdP v47), mP h38, mP h38, mP h38, mR h38 (rdP v50), mH h38 (rdL [v51]) l54 h53, mP h53, mP h53, mH h53 [] l59 h58] fun l60 =>
 j40 [(nt vs37 0), (nt vs37 1), (nt vs37 2), (nt vs37 3)] h58 (l60 ++ l39)) fun j36 => fork v35
 (j36 [(nt vs33 0), (nt vs33 1), (nt vs33 2), (nt vs33 3)] h34 [])
 (some ⟨(.exit 0), [(nt vs33 0), (nt vs33 1), (nt vs33 2), (nt vs33 3)], h34, []⟩)
noncomputable def F_k138 (call : CallF) (lp : LoopF) (x0 : Value) (h : H) : Option (Value × H × List Nat) :=
 al (aBx h.n T_api_Table 4 x0) h fun v0 h1 =>
 al (aNew h1.n T_api_Table [(.string ⟨#[]⟩), (.slice none 0 0), (.string ⟨#[]⟩), (.slice none 0 0)]) h1 fun v2 h3 =>
 ob (rFld 1 v0) fun v4 =>
 ob (rLd1 h3.get v4) fun v5 =>
 hv (call (.fn N_k129) [v5] h3) fun v6 h7 l8 =>
 ob (rFld 1 v0) fun v9 =>
 hv (rStore h7 1 v9 v6) fun v10 h11 l12 =>
 ob (rFld 3 v0) fun v13 =>
 ob (rLd1 h11.get v13) fun v14 =>
 hv (call (.fn N_k130) [v14] h11) fun v15 h16 l17 =>
 ob (rFld 3 v0) fun v18 =>
 hv (rStore h16 1 v18 v15) fun v19 h20 l21 =>
 ob (rFld 3 v0) fun v22 =>
 ob (rLd1 h20.get v22) fun v23 =>
 ob (rLenL v23) fun v24 =>
 jn3 (fun vs26 h27 l28 =>
 ob (rLdA h27.get 4 (nt vs26 0)) fun v29 =>
 hv (rStore h27 4 (nt vs26 1) v29) fun v30 h31 l32 =>
 fin h (rsK (rLdA h31.get 4 (nt vs26 1)) (some [])) h31 (l32 ++ l28)) fun j25 =>
 ob (lp (F_k138_L250 call lp) [v0, v2, v24, (.int .i64 0)] h20) fun o61 =>
 onEx o61.ex (j25 [(nt o61.vs 0), (nt o61.vs 1)] o61.h (o61.lg ++ (l21 ++ (l17 ++ (l12 ++ (l8 ++ [])))))) (fun i62 => bif Nat.beq i62 0 then j25 [(nt o61.vs 0), (nt o61.vs 1)] o61.h (o61.lg ++ (l21 ++ (l17 ++ (l12 ++ (l8 ++ []))))) else none) (fin h (rsK (rLdA o61.h.get 4 (nt o61.vs 1)) (some [])) o61.h (o61.lg ++ (l21 ++ (l17 ++ (l12 ++ (l8 ++ []))))))

-- 139 (*asterism/schema.Schema).named
noncomputable def F_k139_L250 (call : CallF) (lp : LoopF) : List Value → H → Option LOut := fun vs57 h58 =>
 ob (bI .lss (nt vs57 5) (nt vs57 4)) fun v59 =>
 jn3 (fun vs61 h62 l63 =>
 jn3 (fun vs65 h66 l67 =>
 ob (bI .add (nt vs65 5) (.int .i64 1)) fun v68 =>
 some ⟨.normal, [(nt vs65 0), (nt vs65 1), (nt vs65 2), (nt vs65 3), (nt vs65 4), v68, (nt vs65 6), (nt vs65 7), (nt vs65 8), (nt vs65 9), (nt vs65 10)], h66, l67⟩) fun j64 =>
 ob (rIdxS 4 (nt vs61 3) (nt vs61 5)) fun v69 =>
 ob (rLdA h62.get 4 v69) fun v70 =>
 al (aNew h62.n T_api_Col [(.string ⟨#[]⟩), (.int .i64 0), (.bool false), (.string ⟨#[]⟩)]) h62 fun v71 h72 =>
 hv (rStore h72 4 v71 v70) fun v73 h74 l75 =>
 ob (rFld 0 v71) fun v76 =>
 ob (rLd1 h74.get v76) fun v77 =>
 hv (call (.fn N_k180) [v77] h74) fun v78 h79 l80 =>
 ob (unV .not v78) fun v81 =>
 jn3 (fun vs83 h84 l85 =>
 ob (rFld 0 (nt vs83 3)) fun v86 =>
 ob (rLd1 h84.get v86) fun v87 =>
 al (aBuildS pgB h84.n T_Lstring 1 [(0, v87)]) h84 fun v88 h89 =>
 hv (rApp h89 T_string 1 16 [(.string ⟨#[]⟩)] (nt vs83 2) v88) fun v90 h91 l92 =>
 j64 [(nt vs83 0), (nt vs83 1), v90, (nt vs83 4), (nt vs83 5), (nt vs83 6), (nt vs83 7), (nt vs83 8), (nt vs83 9), (nt vs83 10), (nt vs83 11)] h91 (l92 ++ l85)) fun j82 => fork v81
 (some ⟨.ret, [(nt vs61 0), (.bool false), (nt vs61 2), (nt vs61 3), (nt vs61 4), (nt vs61 5), (nt vs61 6), (nt vs61 7), (nt vs61 8), (nt vs61 9), (nt vs61 10)], h79, (l80 ++ (l75 ++ l63))⟩)
 (j82 [(nt vs61 0), (nt vs61 1), (nt vs61 2), v71, (nt vs61 3), (nt vs61 4), (nt vs61 5), (nt vs61 6), (nt vs61 7), (nt vs61 8), (nt vs61 9), (nt vs61 10)] h79 (l80 ++ (l75 ++ l63)))) fun j60 => fork v59
 (j60 [(nt vs57 0), (nt vs57 1), (nt vs57 2), (nt vs57 3), (nt vs57 4), (nt vs57 5), (nt vs57 6), (nt vs57 7), (nt vs57 8), (nt vs57 9), (nt vs57 10)] h58 [])
 (some ⟨(.exit 0), [(nt vs57 0), (nt vs57 1), (nt vs57 2), (nt vs57 3), (nt vs57 4), (nt vs57 5), (nt vs57 6), (nt vs57 7), (nt vs57 8), (nt vs57 9), (nt vs57 10)], h58, []⟩)
noncomputable def F_k139 (call : CallF) (lp : LoopF) (x0 : Value) (x1 : Value) (h : H) : Option (Value × H × List Nat) :=
 al (aBx h.n T_api_Table 4 x1) h fun v0 h1 =>
 ob (rFld 0 v0) fun v2 =>
 ob (rLd1 h1.get v2) fun v3 =>
 hv (call (.fn N_k81) [x0, v3] h1) fun v4 h5 l6 =>
 ob (rExtract 0 v4) fun v7 =>
 ob (rExtract 1 v4) fun v8 =>
 al (aNew h5.n T_api_Table [(.string ⟨#[]⟩), (.slice none 0 0), (.string ⟨#[]⟩), (.slice none 0 0)]) h5 fun v9 h10 =>
 hv (rStore h10 4 v9 v7) fun v11 h12 l13 =>
 gP (gd v8 false) (rFld 0 v0) fun v14 =>
 gP (gd v8 false) (rLd1 h12.get v14) fun v15 =>
 hv (gV (gd v8 false) (call (.fn N_k180) [v15] h12) h12) fun v16 h17 l18 =>
 gP (gd v8 false) (unV .not v16) fun v19 =>
 ob (rPick v8 (.bool true) v19) fun v20 =>
 gP (gd v20 false) (rFld 2 v0) fun v21 =>
 gP (gd v20 false) (rLd1 h17.get v21) fun v22 =>
 gP (gd v20 false) (binV pgB.ty (tyD .string) .neq v22 (.string ⟨#[]⟩)) fun v23 =>
 gP (gd v20 false) (some v23) fun v24 =>
 gP (gd v24 true) (rLdA h17.get 4 v0) fun v25 =>
 gP (gd v24 true) (rFld 2 v0) fun v26 =>
 gP (gd v24 true) (rLd1 h17.get v26) fun v27 =>
 hv (gV (gd v24 true) (call (.fn N_k143) [v25, v27] h17) h17) fun v28 h29 l30 =>
 gP (gd v24 true) (bI .lss v28 (.int .i64 0)) fun v31 =>
 gP (gd v20 false) (rPick v24 v31 (.bool false)) fun v32 =>
 ob (rPick v20 (.bool true) v32) fun v33 =>
 jn3 (fun vs35 h36 l37 =>
 ob (rFld 1 (nt vs35 0)) fun v38 =>
 ob (rLd1 h36.get v38) fun v39 =>
 ob (rLenL v39) fun v40 =>
 jn3 (fun vs42 h43 l44 =>
 hv (call (.fn N_k181) [(nt vs42 1)] h43) fun v45 h46 l47 =>
 ob (unV .not v45) fun v48 =>
 gP (gd v48 true) (rFld 3 (nt vs42 0)) fun v49 =>
 gP (gd v48 true) (rLd1 h46.get v49) fun v50 =>
 gP (gd v48 true) (oFunc N_k183 #[] #[(nt vs42 0)]) fun v51 =>
 hv (gV (gd v48 true) (call (.fn N_k182) [v50, v51] h46) h46) fun v52 h53 l54 =>
 gP (gd v48 true) (unV .not v52) fun v55 =>
 ob (rPick v48 v55 (.bool false)) fun v56 =>
 fin h (rsT v56 (some [])) h53 (l54 ++ (l47 ++ l44))) fun j41 =>
 ob (lp (F_k139_L250 call lp) [(nt vs35 0), (nt vs35 1), (.slice none 0 0), v39, v40, (.int .i64 0), (nt vs35 2), (nt vs35 3), (nt vs35 4), (nt vs35 5), (nt vs35 6)] h36) fun o93 =>
 onEx o93.ex (j41 [(nt o93.vs 0), (nt o93.vs 2), (nt o93.vs 6), (nt o93.vs 7), (nt o93.vs 8), (nt o93.vs 9), (nt o93.vs 10)] o93.h (o93.lg ++ l37)) (fun i94 => bif Nat.beq i94 0 then j41 [(nt o93.vs 0), (nt o93.vs 2), (nt o93.vs 6), (nt o93.vs 7), (nt o93.vs 8), (nt o93.vs 9), (nt o93.vs 10)] o93.h (o93.lg ++ l37) else none) (fin h (rsT (nt o93.vs 1) (some [])) o93.h (o93.lg ++ l37))) fun j34 => fork v33
 (fin h (rsT (.bool false) (some [])) h29 (l30 ++ (l18 ++ (l13 ++ (l6 ++ [])))))
 (j34 [v0, (.bool false), poison, poison, poison, poison, poison] h29 (l30 ++ (l18 ++ (l13 ++ (l6 ++ [])))))

-- 140 slices.ContainsFunc[[]asterism/api.Col,asterism/api.Col]
noncomputable def F_k140 (call : CallF) (lp : LoopF) (x0 : Value) (x1 : Value) (h : H) : Option (Value × H × List Nat) :=
 hv (call (.fn N_k177) [x0, x1] h) fun v0 h1 l2 =>
 ob (bI .geq v0 (.int .i64 0)) fun v3 =>
 fin h (rsT v3 (some [])) h1 (l2 ++ [])

-- 141 (*asterism/schema.Schema).Add$1
noncomputable def F_k141 (call : CallF) (lp : LoopF) (x0 : Value) (h : H) : Option (Value × H × List Nat) :=
 al (aBx h.n T_api_Col 4 x0) h fun v0 h1 =>
 ob (rFld 1 v0) fun v2 =>
 ob (rLd1 h1.get v2) fun v3 =>
 ob (bI .neq v3 (.int .i64 1)) fun v4 =>
 gP (gd v4 true) (rFld 1 v0) fun v5 =>
 gP (gd v4 true) (rLd1 h1.get v5) fun v6 =>
 gP (gd v4 true) (bI .neq v6 (.int .i64 2)) fun v7 =>
 ob (rPick v4 v7 (.bool false)) fun v8 =>
 fin h (rsT v8 (some [])) h1 []

-- 142 (*asterism/schema.Schema).refs
noncomputable def F_k142_L58 (call : CallF) (lp : LoopF) : List Value → H → Option LOut := fun vs9 h10 =>
 ob (bI .lss (nt vs9 4) (nt vs9 3)) fun v11 =>
 jn3 (fun vs13 h14 l15 =>
 jn3 (fun vs17 h18 l19 =>
 ob (bI .add (nt vs17 4) (.int .i64 1)) fun v20 =>
 some ⟨.normal, [(nt vs17 0), (nt vs17 1), (nt vs17 2), (nt vs17 3), v20], h18, l19⟩) fun j16 =>
 ob (rIdxS 4 (nt vs13 2) (nt vs13 4)) fun v21 =>
 ob (rLdA h14.get 4 v21) fun v22 =>
 al (aNew h14.n T_api_Col [(.string ⟨#[]⟩), (.int .i64 0), (.bool false), (.string ⟨#[]⟩)]) h14 fun v23 h24 =>
 hv (rStore h24 4 v23 v22) fun v25 h26 l27 =>
 ob (rFld 3 v23) fun v28 =>
 ob (rLd1 h26.get v28) fun v29 =>
 ob (binV pgB.ty (tyD .string) .eql v29 (.string ⟨#[]⟩)) fun v30 =>
 jn3 (fun vs32 h33 l34 =>
 ob (rFld 3 (nt vs32 2)) fun v35 =>
 ob (rLd1 h33.get v35) fun v36 =>
 hv (call (.fn N_k81) [(nt vs32 0), v36] h33) fun v37 h38 l39 =>
 ob (rExtract 0 v37) fun v40 =>
 ob (rExtract 1 v37) fun v41 =>
 al (aNew h38.n T_api_Table [(.string ⟨#[]⟩), (.slice none 0 0), (.string ⟨#[]⟩), (.slice none 0 0)]) h38 fun v42 h43 =>
 hv (rStore h43 4 v42 v40) fun v44 h45 l46 =>
 jn3 (fun vs48 h49 l50 =>
 j16 [(nt vs48 0), (nt vs48 1), (nt vs48 2), (nt vs48 3), (nt vs48 4)] h49 l50) fun j47 =>
 ob (unV .not v41) fun v51 =>
 jn3 (fun vs53 h54 l55 =>
 j47 [(nt vs53 0), (nt vs53 1), (nt vs53 2), (nt vs53 3), (nt vs53 4)] h54 l55) fun j52 => fork v51
 (some ⟨.ret, [(nt vs32 0), (.int .i64 3), (nt vs32 3), (nt vs32 4), (nt vs32 5)], h45, (l46 ++ (l39 ++ l34))⟩)
 (ob (rFld 2 v42) fun v56 =>
 ob (rLd1 h45.get v56) fun v57 =>
 ob (binV pgB.ty (tyD .string) .eql v57 (.string ⟨#[]⟩)) fun v58 =>
 jn3 (fun vs60 h61 l62 =>
 j52 [(nt vs60 0), (nt vs60 1), (nt vs60 2), (nt vs60 3), (nt vs60 4)] h61 l62) fun j59 => fork v58
 (some ⟨.ret, [(nt vs32 0), (.int .i64 9), (nt vs32 3), (nt vs32 4), (nt vs32 5)], h45, (l46 ++ (l39 ++ l34))⟩)
 (ob (rFld 1 v42) fun v63 =>
 ob (rLd1 h45.get v63) fun v64 =>
 ob (rLdA h45.get 4 v42) fun v65 =>
 ob (rFld 2 v42) fun v66 =>
 ob (rLd1 h45.get v66) fun v67 =>
 hv (call (.fn N_k143) [v65, v67] h45) fun v68 h69 l70 =>
 ob (rIdxS 4 v64 v68) fun v71 =>
 ob (rFld 1 v71) fun v72 =>
 ob (rLd1 h69.get v72) fun v73 =>
 ob (rFld 1 (nt vs32 2)) fun v74 =>
 ob (rLd1 h69.get v74) fun v75 =>
 ob (bI .neq v73 v75) fun v76 =>
 dr [0, 1, 0, 0, 8, 28, 63, 127, 255, 0, 512, 2047, 4095] [mP h45, mR h45 (rdP v63), mR h45 (rdP v42), mP h45, mR h45 (rdP v66), mH h45 (rdL [v65, v67]) l70 h69, mP h69, mP h69, mR h69 (rdP v72), mP h69, mR h69 (rdP v74), mP h69, mP h69] fun l77 =>
 jn3 (fun vs79 h80 l81 =>
 j59 [(nt vs79 0), (nt vs79 1), (nt vs79 2), (nt vs79 3), (nt vs79 4)] h80 l81) fun j78 => fork v76
 (some ⟨.ret, [(nt vs32 0), (.int .i64 4), (nt vs32 3), (nt vs32 4), (nt vs32 5)], h69, (l77 ++ (l46 ++ (l39 ++ l34)))⟩)
 (j78 [(nt vs32 0), (nt vs32 1), (nt vs32 3), (nt vs32 4), (nt vs32 5)] h69 (l77 ++ (l46 ++ (l39 ++ l34))))))) fun j31 => fork v30
 (j16 [(nt vs13 0), (nt vs13 1), (nt vs13 2), (nt vs13 3), (nt vs13 4)] h26 (l27 ++ l15))
 (j31 [(nt vs13 0), (nt vs13 1), v23, (nt vs13 2), (nt vs13 3), (nt vs13 4)] h26 (l27 ++ l15))) fun j12 => fork v11
 (j12 [(nt vs9 0), (nt vs9 1), (nt vs9 2), (nt vs9 3), (nt vs9 4)] h10 [])
 (some ⟨(.exit 0), [(nt vs9 0), (nt vs9 1), (nt vs9 2), (nt vs9 3), (nt vs9 4)], h10, []⟩)
noncomputable def F_k142 (call : CallF) (lp : LoopF) (x0 : Value) (x1 : Value) (h : H) : Option (Value × H × List Nat) :=
 al (aBx h.n T_api_Table 4 x1) h fun v0 h1 =>
 ob (rFld 1 v0) fun v2 =>
 ob (rLd1 h1.get v2) fun v3 =>
 ob (rLenL v3) fun v4 =>
 jn3 (fun vs6 h7 l8 =>
 fin h (rsT (.int .i64 0) (some [])) h7 l8) fun j5 =>
 ob (lp (F_k142_L58 call lp) [x0, (.int .i64 0), v3, v4, (.int .i64 0)] h1) fun o82 =>
 onEx o82.ex (j5 [] o82.h (o82.lg ++ [])) (fun i83 => bif Nat.beq i83 0 then j5 [] o82.h (o82.lg ++ []) else none) (fin h (rsT (nt o82.vs 1) (some [])) o82.h (o82.lg ++ []))

-- 143 asterism/schema.col
noncomputable def F_k143 (call : CallF) (lp : LoopF) (x0 : Value) (x1 : Value) (h : H) : Option (Value × H × List Nat) :=
 al (aBx h.n T_api_Table 4 x0) h fun v0 h1 =>
 al (aBx h1.n T_string 1 x1) h1 fun v2 h3 =>
 ob (rFld 1 v0) fun v4 =>
 ob (rLd1 h3.get v4) fun v5 =>
 ob (oFunc N_k185 #[] #[v2]) fun v6 =>
 hv (call (.fn N_k177) [v5, v6] h3) fun v7 h8 l9 =>
 fin h (rsT v7 (some [])) h8 (l9 ++ [])

-- 144 (*asterism/column.Column).Len
noncomputable def F_k144 (call : CallF) (lp : LoopF) (x0 : Value) (h : H) : Option (Value × H × List Nat) :=
 ob (binV pgB.ty (tyD (.pointer 0)) .eql x0 (.pointer none)) fun v0 =>
 jn3 (fun vs2 h3 l4 =>
 ob (rNil (nt vs2 0)) fun v5 =>
 ob (rFld 1 v5) fun v6 =>
 ob (rLd1 h3.get v6) fun v7 =>
 ob (rLenL v7) fun v8 =>
 fin h (rsT v8 (some [])) h3 l4) fun j1 => fork v0
 (fin h (rsT (.int .i64 0) (some [])) h [])
 (j1 [x0] h [])

-- 145 (*asterism/column.Column).Append
noncomputable def F_k145 (call : CallF) (lp : LoopF) (x0 : Value) (x1 : Value) (h : H) : Option (Value × H × List Nat) :=
 al (aBx h.n T_api_Value 3 x1) h fun v0 h1 =>
 ob (rLdA h1.get 3 v0) fun v2 =>
 hv (call (.fn N_k170) [x0, v2] h1) fun v3 h4 l5 =>
 ob (unV .not v3) fun v6 =>
 jn3 (fun vs8 h9 l10 =>
 ob (rNil (nt vs8 0)) fun v11 =>
 ob (rFld 1 v11) fun v12 =>
 ob (rLd1 h9.get v12) fun v13 =>
 ob (rLdA h9.get 3 (nt vs8 1)) fun v14 =>
 al (aBuildS pgB h9.n T_Lapi_Value 1 [(0, v14)]) h9 fun v15 h16 =>
 hv (rApp h16 T_api_Value 3 32 [(.int .i64 0), (.int .i64 0), (.string ⟨#[]⟩)] v13 v15) fun v17 h18 l19 =>
 ob (rNil (nt vs8 0)) fun v20 =>
 ob (rFld 1 v20) fun v21 =>
 hv (rStore h18 1 v21 v17) fun v22 h23 l24 =>
 dr [0, 0, 2, 6, 14, 0, 32, 126, 255, 511, 1023] [mP h9, mP h9, mP h9, mP h9, mR h9 (rdP v12), mR h9 (rdP (nt vs8 1)), mA h9 [], mH h16 (rdL [v13, v15]) l19 h18, mP h18, mP h18, mH h18 [] l24 h23] fun l25 =>
 ob (rLdA h23.get 3 (nt vs8 1)) fun v26 =>
 hv (call (.fn N_k172) [(nt vs8 0), v26] h23) fun v27 h28 l29 =>
 fin h (rsT (.bool true) (some [])) h28 (l29 ++ (l25 ++ l10))) fun j7 => fork v6
 (fin h (rsT (.bool false) (some [])) h4 (l5 ++ []))
 (j7 [x0, v0] h4 (l5 ++ []))

-- 147 asterism/asterismref1.Eq
noncomputable def F_k147 (call : CallF) (lp : LoopF) (x0 : Value) (x1 : Value) (h : H) : Option (Value × H × List Nat) :=
 al (aBx h.n T_api_Value 3 x0) h fun v0 h1 =>
 al (aBx h1.n T_api_Value 3 x1) h1 fun v2 h3 =>
 ob (rFld 0 v0) fun v4 =>
 ob (rLd1 h3.get v4) fun v5 =>
 ob (rFld 0 v2) fun v6 =>
 ob (rLd1 h3.get v6) fun v7 =>
 ob (bI .eql v5 v7) fun v8 =>
 gP (gd v8 true) (rFld 1 v0) fun v9 =>
 gP (gd v8 true) (rLd1 h3.get v9) fun v10 =>
 gP (gd v8 true) (rFld 1 v2) fun v11 =>
 gP (gd v8 true) (rLd1 h3.get v11) fun v12 =>
 gP (gd v8 true) (bI .eql v10 v12) fun v13 =>
 ob (rPick v8 v13 (.bool false)) fun v14 =>
 gP (gd v14 true) (rFld 2 v0) fun v15 =>
 gP (gd v14 true) (rLd1 h3.get v15) fun v16 =>
 gP (gd v14 true) (rFld 2 v2) fun v17 =>
 gP (gd v14 true) (rLd1 h3.get v17) fun v18 =>
 gP (gd v14 true) (binV pgB.ty (tyD .string) .eql v16 v18) fun v19 =>
 ob (rPick v14 v19 (.bool false)) fun v20 =>
 fin h (rsT v20 (some [])) h3 []

-- 148 asterism/asterismref8.ColOf
noncomputable def F_k148_L58 (call : CallF) (lp : LoopF) : List Value → H → Option LOut := fun vs6 h7 =>
 ob (rFld 1 (nt vs6 1)) fun v8 =>
 ob (rLd1 h7.get v8) fun v9 =>
 ob (rLenL v9) fun v10 =>
 ob (bI .lss (nt vs6 3) v10) fun v11 =>
 jn3 (fun vs13 h14 l15 =>
 jn3 (fun vs17 h18 l19 =>
 ob (bI .add (nt vs17 3) (.int .i64 1)) fun v20 =>
 some ⟨.normal, [(nt vs17 0), (nt vs17 1), (nt vs17 2), v20], h18, l19⟩) fun j16 =>
 ob (rFld 1 (nt vs13 1)) fun v21 =>
 ob (rLd1 h14.get v21) fun v22 =>
 ob (rIdxS 4 v22 (nt vs13 3)) fun v23 =>
 ob (rFld 0 v23) fun v24 =>
 ob (rLd1 h14.get v24) fun v25 =>
 ob (binV pgB.ty (tyD .string) .eql v25 (nt vs13 0)) fun v26 =>
 jn3 (fun vs28 h29 l30 =>
 j16 [(nt vs28 0), (nt vs28 1), (nt vs28 2), (nt vs28 3)] h29 l30) fun j27 => fork v26
 (some ⟨.ret, [(nt vs13 0), (nt vs13 1), (nt vs13 3), (nt vs13 3)], h14, l15⟩)
 (j27 [(nt vs13 0), (nt vs13 1), (nt vs13 2), (nt vs13 3)] h14 l15)) fun j12 => fork v11
 (j12 [(nt vs6 0), (nt vs6 1), (nt vs6 2), (nt vs6 3)] h7 [])
 (some ⟨(.exit 0), [(nt vs6 0), (nt vs6 1), (nt vs6 2), (nt vs6 3)], h7, []⟩)
noncomputable def F_k148 (call : CallF) (lp : LoopF) (x0 : Value) (x1 : Value) (h : H) : Option (Value × H × List Nat) :=
 al (aBx h.n T_api_Table 4 x0) h fun v0 h1 =>
 jn3 (fun vs3 h4 l5 =>
 fin h (rsT (.int .i64 (-1)) (some [])) h4 l5) fun j2 =>
 ob (lp (F_k148_L58 call lp) [x1, v0, (.int .i64 0), (.int .i64 0)] h1) fun o31 =>
 onEx o31.ex (j2 [] o31.h (o31.lg ++ [])) (fun i32 => bif Nat.beq i32 0 then j2 [] o31.h (o31.lg ++ []) else none) (fin h (rsT (nt o31.vs 2) (some [])) o31.h (o31.lg ++ []))

-- 150 asterism/column.New
noncomputable def F_k150 (call : CallF) (lp : LoopF) (x0 : Value) (h : H) : Option (Value × H × List Nat) :=
 ob (bI .neq x0 (.int .i64 1)) fun v0 =>
 gP (gd v0 true) (some x0) fun v1 =>
 gP (gd v0 true) (bI .neq v1 (.int .i64 2)) fun v2 =>
 ob (rPick v0 v2 (.bool false)) fun v3 =>
 jn3 (fun vs5 h6 l7 =>
 ob (oBuild pgB T_column_Column [(0, (nt vs5 0))]) fun v8 =>
 al (aBx h6.n T_column_Column 4 v8) h6 fun v9 h10 =>
 fin h (rsT v9 (some [])) h10 l7) fun j4 => fork v3
 (fin h (rsT (.pointer none) (some [])) h [])
 (j4 [x0] h [])

-- 151 asterism/asterismref8.names
noncomputable def F_k151_L16590630 (call : CallF) (lp : LoopF) : List Value → H → Option LOut := fun vs134 h135 =>
 ob (bI .lss (nt vs134 5) (nt vs134 4)) fun v136 =>
 jn3 (fun vs138 h139 l140 =>
 jn3 (fun vs142 h143 l144 =>
 ob (bI .add (nt vs142 5) (.int .i64 1)) fun v145 =>
 some ⟨.normal, [(nt vs142 0), (nt vs142 1), (nt vs142 2), (nt vs142 3), (nt vs142 4), v145, (nt vs142 6), (nt vs142 7), (nt vs142 8), (nt vs142 9), (nt vs142 10), (nt vs142 11), (nt vs142 12), (nt vs142 13), (nt vs142 14), (nt vs142 15), (nt vs142 16), (nt vs142 17), (nt vs142 18), (nt vs142 19), (nt vs142 20), (nt vs142 21), (nt vs142 22)], h143, l144⟩) fun j141 =>
 ob (rFld 0 (nt vs138 3)) fun v146 =>
 ob (rLd1 h139.get v146) fun v147 =>
 ob (rIdxS 1 v147 (nt vs138 5)) fun v148 =>
 ob (rLd1 h139.get v148) fun v149 =>
 ob (rFld 0 (nt vs138 3)) fun v150 =>
 ob (rLd1 h139.get v150) fun v151 =>
 ob (rIdxS 1 v151 (nt vs138 4)) fun v152 =>
 ob (rLd1 h139.get v152) fun v153 =>
 ob (binV pgB.ty (tyD .string) .eql v149 v153) fun v154 =>
 dr [0, 1, 0, 7, 15, 0, 32, 0, 224, 480, 1023] [mP h139, mR h139 (rdP v146), mP h139, mP h139, mR h139 (rdP v148), mP h139, mR h139 (rdP v150), mP h139, mP h139, mR h139 (rdP v152), mP h139] fun l155 =>
 jn3 (fun vs157 h158 l159 =>
 j141 [(nt vs157 0), (nt vs157 1), (nt vs157 2), (nt vs157 3), (nt vs157 4), (nt vs157 5), (nt vs157 6), (nt vs157 7), (nt vs157 8), (nt vs157 9), (nt vs157 10), (nt vs157 11), (nt vs157 12), (nt vs157 13), (nt vs157 14), (nt vs157 15), (nt vs157 16), (nt vs157 17), (nt vs157 18), (nt vs157 19), (nt vs157 20), (nt vs157 21), (nt vs157 22)] h158 l159) fun j156 => fork v154
 (some ⟨.ret, [(nt vs138 0), (.bool false), (nt vs138 2), (nt vs138 3), (nt vs138 4), (nt vs138 5), (nt vs138 6), (nt vs138 7), (nt vs138 8), (nt vs138 9), (nt vs138 10), (nt vs138 11), (nt vs138 12), (nt vs138 13), (nt vs138 14), (nt vs138 15), (nt vs138 16), (nt vs138 17), (nt vs138 18), (nt vs138 19), (nt vs138 20), (nt vs138 21), (nt vs138 22)], h139, (l155 ++ l140)⟩)
 (j156 [(nt vs138 0), (nt vs138 1), (nt vs138 2), (nt vs138 3), (nt vs138 4), (nt vs138 5), (nt vs138 6), (nt vs138 7), (nt vs138 8), (nt vs138 9), (nt vs138 10), (nt vs138 11), (nt vs138 12), (nt vs138 13), (nt vs138 14), (nt vs138 15), (nt vs138 16), (nt vs138 17), (nt vs138 18), (nt vs138 19), (nt vs138 20), (nt vs138 21), (nt vs138 22)] h139 (l155 ++ l140))) fun j137 => fork v136
 (j137 [(nt vs134 0), (nt vs134 1), (nt vs134 2), (nt vs134 3), (nt vs134 4), (nt vs134 5), (nt vs134 6), (nt vs134 7), (nt vs134 8), (nt vs134 9), (nt vs134 10), (nt vs134 11), (nt vs134 12), (nt vs134 13), (nt vs134 14), (nt vs134 15), (nt vs134 16), (nt vs134 17), (nt vs134 18), (nt vs134 19), (nt vs134 20), (nt vs134 21), (nt vs134 22)] h135 [])
 (some ⟨(.exit 6), [(nt vs134 0), (nt vs134 1), (nt vs134 2), (nt vs134 3), (nt vs134 4), (nt vs134 5), (nt vs134 6), (nt vs134 7), (nt vs134 8), (nt vs134 9), (nt vs134 10), (nt vs134 11), (nt vs134 12), (nt vs134 13), (nt vs134 14), (nt vs134 15), (nt vs134 16), (nt vs134 17), (nt vs134 18), (nt vs134 19), (nt vs134 20), (nt vs134 21), (nt vs134 22)], h135, []⟩)
noncomputable def F_k151_L129614 (call : CallF) (lp : LoopF) : List Value → H → Option LOut := fun vs92 h93 =>
 ob (rFld 0 (nt vs92 3)) fun v94 =>
 ob (rLd1 h93.get v94) fun v95 =>
 ob (rLenL v95) fun v96 =>
 ob (bI .lss (nt vs92 4) v96) fun v97 =>
 jn3 (fun vs99 h100 l101 =>
 jn3 (fun vs103 h104 l105 =>
 ob (bI .add (nt vs103 4) (.int .i64 1)) fun v106 =>
 some ⟨.normal, [(nt vs103 0), (nt vs103 1), (nt vs103 2), (nt vs103 3), v106, (nt vs103 5), (nt vs103 6), (nt vs103 7), (nt vs103 8), (nt vs103 9), (nt vs103 10), (nt vs103 11), (nt vs103 12), (nt vs103 13), (nt vs103 14), (nt vs103 15), (nt vs103 16), (nt vs103 17), (nt vs103 18), (nt vs103 19), (nt vs103 20), (nt vs103 21)], h104, l105⟩) fun j102 =>
 ob (rLdA h100.get 4 (nt vs99 0)) fun v107 =>
 ob (rFld 0 (nt vs99 3)) fun v108 =>
 ob (rLd1 h100.get v108) fun v109 =>
 ob (rIdxS 1 v109 (nt vs99 4)) fun v110 =>
 ob (rLd1 h100.get v110) fun v111 =>
 hv (call (.fn N_k148) [v107, v111] h100) fun v112 h113 l114 =>
 ob (bI .lss v112 (.int .i64 0)) fun v115 =>
 gP (gd v115 false) (rFld 0 (nt vs99 3)) fun v116 =>
 gP (gd v115 false) (rLd1 h113.get v116) fun v117 =>
 gP (gd v115 false) (some (nt vs99 4)) fun v118 =>
 gP (gd v115 false) (rIdxS 1 v117 v118) fun v119 =>
 gP (gd v115 false) (rLd1 h113.get v119) fun v120 =>
 gP (gd v115 false) (rFld 1 (nt vs99 3)) fun v121 =>
 gP (gd v115 false) (rLd1 h113.get v121) fun v122 =>
 gP (gd v115 false) (binV pgB.ty (tyD .string) .eql v120 v122) fun v123 =>
 ob (rPick v115 (.bool true) v123) fun v124 =>
 dr [0, 0, 2, 0, 14, 30, 63, 127, 255, 511, 1023, 511, 4095, 8191, 511, 16895, 65535, 131071] [mR h100 (rdP (nt vs99 0)), mP h100, mR h100 (rdP v108), mP h100, mP h100, mR h100 (rdP v110), mH h100 (rdL [v107, v111]) l114 h113, mP h113, mP h113, mG (gd v115 false) .pure [] h113 h113 [], mG (gd v115 false) .pure (rdP v116) h113 h113 [], mG (gd v115 false) .pure [] h113 h113 [], mG (gd v115 false) .pure [] h113 h113 [], mG (gd v115 false) .pure (rdP v119) h113 h113 [], mG (gd v115 false) .pure [] h113 h113 [], mG (gd v115 false) .pure (rdP v121) h113 h113 [], mG (gd v115 false) .pure [] h113 h113 [], mP h113] fun l125 =>
 jn3 (fun vs127 h128 l129 =>
 jn3 (fun vs131 h132 l133 =>
 j102 [(nt vs131 0), (nt vs131 1), (nt vs131 2), (nt vs131 3), (nt vs131 4), (nt vs131 5), (nt vs131 6), (nt vs131 7), (nt vs131 8), (nt vs131 9), (nt vs131 10), (nt vs131 11), (nt vs131 12), (nt vs131 13), (nt vs131 14), (nt vs131 15), (nt vs131 16), (nt vs131 17), (nt vs131 18), (nt vs131 19), (nt vs131 20), (nt vs131 21)] h132 l133) fun j130 =>
 ob (lp (F_k151_L16590630 call lp) [(nt vs127 0), (nt vs127 1), (nt vs127 2), (nt vs127 3), (nt vs127 4), (.int .i64 0), (nt vs127 5), (nt vs127 6), (nt vs127 7), (nt vs127 8), (nt vs127 9), (nt vs127 10), (nt vs127 11), (nt vs127 12), (nt vs127 13), (nt vs127 14), (nt vs127 15), (nt vs127 16), (nt vs127 17), (nt vs127 18), (nt vs127 19), (nt vs127 20), (nt vs127 21)] h128) fun o160 =>
 onEx o160.ex (j130 [(nt o160.vs 0), (nt o160.vs 1), (nt o160.vs 2), (nt o160.vs 3), (nt o160.vs 4), (nt o160.vs 6), (nt o160.vs 7), (nt o160.vs 8), (nt o160.vs 9), (nt o160.vs 10), (nt o160.vs 11), (nt o160.vs 12), (nt o160.vs 13), (nt o160.vs 14), (nt o160.vs 15), (nt o160.vs 16), (nt o160.vs 17), (nt o160.vs 18), (nt o160.vs 19), (nt o160.vs 20), (nt o160.vs 21), (nt o160.vs 22)] o160.h (o160.lg ++ l129)) (fun i161 => bif Nat.beq i161 6 then j130 [(nt o160.vs 0), (nt o160.vs 1), (nt o160.vs 2), (nt o160.vs 3), (nt o160.vs 4), (nt o160.vs 6), (nt o160.vs 7), (nt o160.vs 8), (nt o160.vs 9), (nt o160.vs 10), (nt o160.vs 11), (nt o160.vs 12), (nt o160.vs 13), (nt o160.vs 14), (nt o160.vs 15), (nt o160.vs 16), (nt o160.vs 17), (nt o160.vs 18), (nt o160.vs 19), (nt o160.vs 20), (nt o160.vs 21), (nt o160.vs 22)] o160.h (o160.lg ++ l129) else bif Nat.beq i161 5 then j102 [(nt o160.vs 0), (nt o160.vs 1), (nt o160.vs 2), (nt o160.vs 3), (nt o160.vs 4), (nt o160.vs 6), (nt o160.vs 7), (nt o160.vs 8), (nt o160.vs 9), (nt o160.vs 10), (nt o160.vs 11), (nt o160.vs 12), (nt o160.vs 13), (nt o160.vs 14), (nt o160.vs 15), (nt o160.vs 16), (nt o160.vs 17), (nt o160.vs 18), (nt o160.vs 19), (nt o160.vs 20), (nt o160.vs 21), (nt o160.vs 22)] o160.h (o160.lg ++ l129) else some ⟨(.exit i161), [(nt o160.vs 0), (nt o160.vs 1), (nt o160.vs 2), (nt o160.vs 3), (nt o160.vs 4), (nt o160.vs 6), (nt o160.vs 7), (nt o160.vs 8), (nt o160.vs 9), (nt o160.vs 10), (nt o160.vs 11), (nt o160.vs 12), (nt o160.vs 13), (nt o160.vs 14), (nt o160.vs 15), (nt o160.vs 16), (nt o160.vs 17), (nt o160.vs 18), (nt o160.vs 19), (nt o160.vs 20), (nt o160.vs 21), (nt o160.vs 22)], o160.h, (o160.lg ++ l129)⟩) (some ⟨.ret, [(nt o160.vs 0), (nt o160.vs 1), (nt o160.vs 2), (nt o160.vs 3), (nt o160.vs 4), (nt o160.vs 6), (nt o160.vs 7), (nt o160.vs 8), (nt o160.vs 9), (nt o160.vs 10), (nt o160.vs 11), (nt o160.vs 12), (nt o160.vs 13), (nt o160.vs 14), (nt o160.vs 15), (nt o160.vs 16), (nt o160.vs 17), (nt o160.vs 18), (nt o160.vs 19), (nt o160.vs 20), (nt o160.vs 21), (nt o160.vs 22)], o160.h, (o160.lg ++ l129)⟩)) fun j126 => fork v124
 (some ⟨.ret, [(nt vs99 0), (.bool false), (nt vs99 2), (nt vs99 3), (nt vs99 4), (nt vs99 5), (nt vs99 6), (nt vs99 7), (nt vs99 8), (nt vs99 9), (nt vs99 10), (nt vs99 11), (nt vs99 12), (nt vs99 13), v116, v117, v118, v119, v120, v121, v122, v123], h113, (l125 ++ l101)⟩)
 (j126 [(nt vs99 0), (nt vs99 1), (nt vs99 2), (nt vs99 3), (nt vs99 4), (nt vs99 5), (nt vs99 6), (nt vs99 7), (nt vs99 8), (nt vs99 9), (nt vs99 10), (nt vs99 11), (nt vs99 12), (nt vs99 13), v116, v117, v118, v119, v120, v121, v122, v123] h113 (l125 ++ l101))) fun j98 => fork v97
 (j98 [(nt vs92 0), (nt vs92 1), (nt vs92 2), (nt vs92 3), (nt vs92 4), (nt vs92 5), (nt vs92 6), (nt vs92 7), (nt vs92 8), (nt vs92 9), (nt vs92 10), (nt vs92 11), (nt vs92 12), (nt vs92 13), (nt vs92 14), (nt vs92 15), (nt vs92 16), (nt vs92 17), (nt vs92 18), (nt vs92 19), (nt vs92 20), (nt vs92 21)] h93 [])
 (some ⟨(.exit 4), [(nt vs92 0), (nt vs92 1), (nt vs92 2), (nt vs92 3), (nt vs92 4), (nt vs92 5), (nt vs92 6), (nt vs92 7), (nt vs92 8), (nt vs92 9), (nt vs92 10), (nt vs92 11), (nt vs92 12), (nt vs92 13), (nt vs92 14), (nt vs92 15), (nt vs92 16), (nt vs92 17), (nt vs92 18), (nt vs92 19), (nt vs92 20), (nt vs92 21)], h93, []⟩)
noncomputable def F_k151_L506 (call : CallF) (lp : LoopF) : List Value → H → Option LOut := fun vs43 h44 =>
 ob (rFld 3 (nt vs43 0)) fun v45 =>
 ob (rLd1 h44.get v45) fun v46 =>
 ob (rLenL v46) fun v47 =>
 ob (bI .lss (nt vs43 2) v47) fun v48 =>
 jn3 (fun vs50 h51 l52 =>
 jn3 (fun vs54 h55 l56 =>
 ob (bI .add (nt vs54 2) (.int .i64 1)) fun v57 =>
 some ⟨.normal, [(nt vs54 0), (nt vs54 1), v57, (nt vs54 3), (nt vs54 4), (nt vs54 5), (nt vs54 6), (nt vs54 7), (nt vs54 8), (nt vs54 9), (nt vs54 10), (nt vs54 11), (nt vs54 12), (nt vs54 13), (nt vs54 14), (nt vs54 15), (nt vs54 16), (nt vs54 17), (nt vs54 18), (nt vs54 19)], h55, l56⟩) fun j53 =>
 ob (rFld 3 (nt vs50 0)) fun v58 =>
 ob (rLd1 h51.get v58) fun v59 =>
 ob (rIdxS 2 v59 (nt vs50 2)) fun v60 =>
 ob (rLdA h51.get 2 v60) fun v61 =>
 al (aNew h51.n T_api_Dep [(.slice none 0 0), (.string ⟨#[]⟩)]) h51 fun v62 h63 =>
 hv (rStore h63 2 v62 v61) fun v64 h65 l66 =>
 ob (rFld 0 v62) fun v67 =>
 ob (rLd1 h65.get v67) fun v68 =>
 ob (rLenL v68) fun v69 =>
 ob (bI .lss v69 (.int .i64 1)) fun v70 =>
 gP (gd v70 false) (rFld 0 v62) fun v71 =>
 gP (gd v70 false) (rLd1 h65.get v71) fun v72 =>
 gP (gd v70 false) (rLenL v72) fun v73 =>
 gP (gd v70 false) (bI .gtr v73 (.int .i64 3)) fun v74 =>
 ob (rPick v70 (.bool true) v74) fun v75 =>
 gP (gd v75 false) (rLdA h65.get 4 (nt vs50 0)) fun v76 =>
 gP (gd v75 false) (rFld 1 v62) fun v77 =>
 gP (gd v75 false) (rLd1 h65.get v77) fun v78 =>
 hv (gV (gd v75 false) (call (.fn N_k148) [v76, v78] h65) h65) fun v79 h80 l81 =>
 gP (gd v75 false) (bI .lss v79 (.int .i64 0)) fun v82 =>
 ob (rPick v75 (.bool true) v82) fun v83 =>
 jn3 (fun vs85 h86 l87 =>
 jn3 (fun vs89 h90 l91 =>
 j53 [(nt vs89 0), (nt vs89 1), (nt vs89 2), (nt vs89 3), (nt vs89 4), (nt vs89 5), (nt vs89 6), (nt vs89 7), (nt vs89 8), (nt vs89 9), (nt vs89 10), (nt vs89 11), (nt vs89 12), (nt vs89 13), (nt vs89 14), (nt vs89 15), (nt vs89 16), (nt vs89 17), (nt vs89 18), (nt vs89 19)] h90 l91) fun j88 =>
 ob (lp (F_k151_L129614 call lp) [(nt vs85 0), (nt vs85 1), (nt vs85 2), (nt vs85 3), (.int .i64 0), (nt vs85 4), (nt vs85 5), (nt vs85 6), (nt vs85 7), (nt vs85 8), (nt vs85 9), (nt vs85 10), (nt vs85 11), (nt vs85 12), (nt vs85 13), (nt vs85 14), (nt vs85 15), (nt vs85 16), (nt vs85 17), (nt vs85 18), (nt vs85 19), (nt vs85 20)] h86) fun o162 =>
 onEx o162.ex (j88 [(nt o162.vs 0), (nt o162.vs 1), (nt o162.vs 2), (nt o162.vs 5), (nt o162.vs 6), (nt o162.vs 7), (nt o162.vs 8), (nt o162.vs 9), (nt o162.vs 10), (nt o162.vs 11), (nt o162.vs 12), (nt o162.vs 13), (nt o162.vs 14), (nt o162.vs 15), (nt o162.vs 16), (nt o162.vs 17), (nt o162.vs 18), (nt o162.vs 19), (nt o162.vs 20), (nt o162.vs 21)] o162.h (o162.lg ++ l87)) (fun i163 => bif Nat.beq i163 4 then j88 [(nt o162.vs 0), (nt o162.vs 1), (nt o162.vs 2), (nt o162.vs 5), (nt o162.vs 6), (nt o162.vs 7), (nt o162.vs 8), (nt o162.vs 9), (nt o162.vs 10), (nt o162.vs 11), (nt o162.vs 12), (nt o162.vs 13), (nt o162.vs 14), (nt o162.vs 15), (nt o162.vs 16), (nt o162.vs 17), (nt o162.vs 18), (nt o162.vs 19), (nt o162.vs 20), (nt o162.vs 21)] o162.h (o162.lg ++ l87) else bif Nat.beq i163 3 then j53 [(nt o162.vs 0), (nt o162.vs 1), (nt o162.vs 2), (nt o162.vs 5), (nt o162.vs 6), (nt o162.vs 7), (nt o162.vs 8), (nt o162.vs 9), (nt o162.vs 10), (nt o162.vs 11), (nt o162.vs 12), (nt o162.vs 13), (nt o162.vs 14), (nt o162.vs 15), (nt o162.vs 16), (nt o162.vs 17), (nt o162.vs 18), (nt o162.vs 19), (nt o162.vs 20), (nt o162.vs 21)] o162.h (o162.lg ++ l87) else some ⟨(.exit i163), [(nt o162.vs 0), (nt o162.vs 1), (nt o162.vs 2), (nt o162.vs 5), (nt o162.vs 6), (nt o162.vs 7), (nt o162.vs 8), (nt o162.vs 9), (nt o162.vs 10), (nt o162.vs 11), (nt o162.vs 12), (nt o162.vs 13), (nt o162.vs 14), (nt o162.vs 15), (nt o162.vs 16), (nt o162.vs 17), (nt o162.vs 18), (nt o162.vs 19), (nt o162.vs 20), (nt o162.vs 21)], o162.h, (o162.lg ++ l87)⟩) (some ⟨.ret, [(nt o162.vs 0), (nt o162.vs 1), (nt o162.vs 2), (nt o162.vs 5), (nt o162.vs 6), (nt o162.vs 7), (nt o162.vs 8), (nt o162.vs 9), (nt o162.vs 10), (nt o162.vs 11), (nt o162.vs 12), (nt o162.vs 13), (nt o162.vs 14), (nt o162.vs 15), (nt o162.vs 16), (nt o162.vs 17), (nt o162.vs 18), (nt o162.vs 19), (nt o162.vs 20), (nt o162.vs 21)], o162.h, (o162.lg ++ l87)⟩)) fun j84 => fork v83
 (some ⟨.ret, [(nt vs50 0), (.bool false), (nt vs50 2), v71, v72, v73, v74, v76, v77, v78, v79, v82, (nt vs50 12), (nt vs50 13), (nt vs50 14), (nt vs50 15), (nt vs50 16), (nt vs50 17), (nt vs50 18), (nt vs50 19)], h80, (l81 ++ (l66 ++ l52))⟩)
 (j84 [(nt vs50 0), (nt vs50 1), (nt vs50 2), v62, v71, v72, v73, v74, v76, v77, v78, v79, v82, (nt vs50 12), (nt vs50 13), (nt vs50 14), (nt vs50 15), (nt vs50 16), (nt vs50 17), (nt vs50 18), (nt vs50 19)] h80 (l81 ++ (l66 ++ l52)))) fun j49 => fork v48
 (j49 [(nt vs43 0), (nt vs43 1), (nt vs43 2), (nt vs43 3), (nt vs43 4), (nt vs43 5), (nt vs43 6), (nt vs43 7), (nt vs43 8), (nt vs43 9), (nt vs43 10), (nt vs43 11), (nt vs43 12), (nt vs43 13), (nt vs43 14), (nt vs43 15), (nt vs43 16), (nt vs43 17), (nt vs43 18), (nt vs43 19)] h44 [])
 (some ⟨(.exit 2), [(nt vs43 0), (nt vs43 1), (nt vs43 2), (nt vs43 3), (nt vs43 4), (nt vs43 5), (nt vs43 6), (nt vs43 7), (nt vs43 8), (nt vs43 9), (nt vs43 10), (nt vs43 11), (nt vs43 12), (nt vs43 13), (nt vs43 14), (nt vs43 15), (nt vs43 16), (nt vs43 17), (nt vs43 18), (nt vs43 19)], h44, []⟩)
noncomputable def F_k151_L122 (call : CallF) (lp : LoopF) : List Value → H → Option LOut := fun vs166 h167 =>
 ob (rFld 1 (nt vs166 0)) fun v168 =>
 ob (rLd1 h167.get v168) fun v169 =>
 ob (rLenL v169) fun v170 =>
 ob (bI .lss (nt vs166 2) v170) fun v171 =>
 jn3 (fun vs173 h174 l175 =>
 jn3 (fun vs177 h178 l179 =>
 ob (bI .add (nt vs177 2) (.int .i64 1)) fun v180 =>
 some ⟨.normal, [(nt vs177 0), (nt vs177 1), v180, (nt vs177 3), (nt vs177 4), (nt vs177 5), (nt vs177 6), (nt vs177 7), (nt vs177 8), (nt vs177 9), (nt vs177 10), (nt vs177 11), (nt vs177 12), (nt vs177 13), (nt vs177 14), (nt vs177 15), (nt vs177 16), (nt vs177 17), (nt vs177 18), (nt vs177 19), (nt vs177 20), (nt vs177 21), (nt vs177 22), (nt vs177 23), (nt vs177 24), (nt vs177 25), (nt vs177 26), (nt vs177 27), (nt vs177 28), (nt vs177 29), (nt vs177 30), (nt vs177 31), (nt vs177 32), (nt vs177 33), (nt vs177 34)], h178, l179⟩) fun j176 =>
 ob (rFld 1 (nt vs173 0)) fun v181 =>
 ob (rLd1 h174.get v181) fun v182 =>
 ob (rIdxS 4 v182 (nt vs173 2)) fun v183 =>
 ob (rFld 0 v183) fun v184 =>
 ob (rLd1 h174.get v184) fun v185 =>
 hv (call (.fn N_k186) [v185] h174) fun v186 h187 l188 =>
 ob (unV .not v186) fun v189 =>
 gP (gd v189 false) (rLdA h187.get 4 (nt vs173 0)) fun v190 =>
 gP (gd v189 false) (rFld 1 (nt vs173 0)) fun v191 =>
 gP (gd v189 false) (rLd1 h187.get v191) fun v192 =>
 gP (gd v189 false) (some (nt vs173 2)) fun v193 =>
 gP (gd v189 false) (rIdxS 4 v192 v193) fun v194 =>
 gP (gd v189 false) (rFld 0 v194) fun v195 =>
 gP (gd v189 false) (rLd1 h187.get v195) fun v196 =>
 hv (gV (gd v189 false) (call (.fn N_k148) [v190, v196] h187) h187) fun v197 h198 l199 =>
 gP (gd v189 false) (some (nt vs173 2)) fun v200 =>
 gP (gd v189 false) (bI .neq v197 v200) fun v201 =>
 ob (rPick v189 (.bool true) v201) fun v202 =>
 dr [0, 1, 0, 7, 15, 31, 63, 127, 255, 511, 511, 1535, 511, 7679, 15871, 32255, 65535, 511, 262143, 524287] [mP h174, mR h174 (rdP v181), mP h174, mP h174, mP h174, mR h174 (rdP v184), mH h174 (rdL [v185]) l188 h187, mP h187, mP h187, mG (gd v189 false) .pure (rdP (nt vs173 0)) h187 h187 [], mG (gd v189 false) .pure [] h187 h187 [], mG (gd v189 false) .pure (rdP v191) h187 h187 [], mG (gd v189 false) .pure [] h187 h187 [], mG (gd v189 false) .pure [] h187 h187 [], mG (gd v189 false) .pure [] h187 h187 [], mG (gd v189 false) .pure (rdP v195) h187 h187 [], mG (gd v189 false) .heavy (rdL [v190, v196]) h187 h198 l199, mG (gd v189 false) .pure [] h198 h198 [], mG (gd v189 false) .pure [] h198 h198 [], mP h198] fun l203 =>
 jn3 (fun vs205 h206 l207 =>
 j176 [(nt vs205 0), (nt vs205 1), (nt vs205 2), (nt vs205 3), (nt vs205 4), (nt vs205 5), (nt vs205 6), (nt vs205 7), (nt vs205 8), (nt vs205 9), (nt vs205 10), (nt vs205 11), (nt vs205 12), (nt vs205 13), (nt vs205 14), (nt vs205 15), (nt vs205 16), (nt vs205 17), (nt vs205 18), (nt vs205 19), (nt vs205 20), (nt vs205 21), (nt vs205 22), (nt vs205 23), (nt vs205 24), (nt vs205 25), (nt vs205 26), (nt vs205 27), (nt vs205 28), (nt vs205 29), (nt vs205 30), (nt vs205 31), (nt vs205 32), (nt vs205 33), (nt vs205 34)] h206 l207) fun j204 => fork v202
 (some ⟨.ret, [(nt vs173 0), (.bool false), (nt vs173 2), v190, v191, v192, v193, v194, v195, v196, v197, v200, v201, (nt vs173 13), (nt vs173 14), (nt vs173 15), (nt vs173 16), (nt vs173 17), (nt vs173 18), (nt vs173 19), (nt vs173 20), (nt vs173 21), (nt vs173 22), (nt vs173 23), (nt vs173 24), (nt vs173 25), (nt vs173 26), (nt vs173 27), (nt vs173 28), (nt vs173 29), (nt vs173 30), (nt vs173 31), (nt vs173 32), (nt vs173 33), (nt vs173 34)], h198, (l203 ++ l175)⟩)
 (j204 [(nt vs173 0), (nt vs173 1), (nt vs173 2), v190, v191, v192, v193, v194, v195, v196, v197, v200, v201, (nt vs173 13), (nt vs173 14), (nt vs173 15), (nt vs173 16), (nt vs173 17), (nt vs173 18), (nt vs173 19), (nt vs173 20), (nt vs173 21), (nt vs173 22), (nt vs173 23), (nt vs173 24), (nt vs173 25), (nt vs173 26), (nt vs173 27), (nt vs173 28), (nt vs173 29), (nt vs173 30), (nt vs173 31), (nt vs173 32), (nt vs173 33), (nt vs173 34)] h198 (l203 ++ l175))) fun j172 => fork v171
 (j172 [(nt vs166 0), (nt vs166 1), (nt vs166 2), (nt vs166 3), (nt vs166 4), (nt vs166 5), (nt vs166 6), (nt vs166 7), (nt vs166 8), (nt vs166 9), (nt vs166 10), (nt vs166 11), (nt vs166 12), (nt vs166 13), (nt vs166 14), (nt vs166 15), (nt vs166 16), (nt vs166 17), (nt vs166 18), (nt vs166 19), (nt vs166 20), (nt vs166 21), (nt vs166 22), (nt vs166 23), (nt vs166 24), (nt vs166 25), (nt vs166 26), (nt vs166 27), (nt vs166 28), (nt vs166 29), (nt vs166 30), (nt vs166 31), (nt vs166 32), (nt vs166 33), (nt vs166 34)] h167 [])
 (some ⟨(.exit 0), [(nt vs166 0), (nt vs166 1), (nt vs166 2), (nt vs166 3), (nt vs166 4), (nt vs166 5), (nt vs166 6), (nt vs166 7), (nt vs166 8), (nt vs166 9), (nt vs166 10), (nt vs166 11), (nt vs166 12), (nt vs166 13), (nt vs166 14), (nt vs166 15), (nt vs166 16), (nt vs166 17), (nt vs166 18), (nt vs166 19), (nt vs166 20), (nt vs166 21), (nt vs166 22), (nt vs166 23), (nt vs166 24), (nt vs166 25), (nt vs166 26), (nt vs166 27), (nt vs166 28), (nt vs166 29), (nt vs166 30), (nt vs166 31), (nt vs166 32), (nt vs166 33), (nt vs166 34)], h167, []⟩)
noncomputable def F_k151 (call : CallF) (lp : LoopF) (x0 : Value) (x1 : Value) (h : H) : Option (Value × H × List Nat) :=
 al (aBx h.n T_api_Table 4 x1) h fun v0 h1 =>
 ob (rFld 0 v0) fun v2 =>
 ob (rLd1 h1.get v2) fun v3 =>
 hv (call (.fn N_k186) [v3] h1) fun v4 h5 l6 =>
 ob (unV .not v4) fun v7 =>
 gP (gd v7 false) (some x0) fun v8 =>
 gP (gd v7 false) (rFld 0 v0) fun v9 =>
 gP (gd v7 false) (rLd1 h5.get v9) fun v10 =>
 hv (gV (gd v7 false) (call (.fn N_k108) [v8, v10] h5) h5) fun v11 h12 l13 =>
 gP (gd v7 false) (bI .geq v11 (.int .i64 0)) fun v14 =>
 ob (rPick v7 (.bool true) v14) fun v15 =>
 jn3 (fun vs17 h18 l19 =>
 jn3 (fun vs21 h22 l23 =>
 ob (rFld 2 (nt vs21 0)) fun v24 =>
 ob (rLd1 h22.get v24) fun v25 =>
 ob (binV pgB.ty (tyD .string) .neq v25 (.string ⟨#[]⟩)) fun v26 =>
 gP (gd v26 true) (rLdA h22.get 4 (nt vs21 0)) fun v27 =>
 gP (gd v26 true) (rFld 2 (nt vs21 0)) fun v28 =>
 gP (gd v26 true) (rLd1 h22.get v28) fun v29 =>
 hv (gV (gd v26 true) (call (.fn N_k148) [v27, v29] h22) h22) fun v30 h31 l32 =>
 gP (gd v26 true) (bI .lss v30 (.int .i64 0)) fun v33 =>
 ob (rPick v26 v33 (.bool false)) fun v34 =>
 jn3 (fun vs36 h37 l38 =>
 jn3 (fun vs40 h41 l42 =>
 fin h (rsT (.bool true) (some [])) h41 l42) fun j39 =>
 ob (lp (F_k151_L506 call lp) [(nt vs36 0), (nt vs36 1), (.int .i64 0), (nt vs36 2), (nt vs36 3), (nt vs36 4), (nt vs36 5), (nt vs36 6), (nt vs36 7), (nt vs36 8), (nt vs36 9), (nt vs36 10), (nt vs36 11), (nt vs36 12), (nt vs36 13), (nt vs36 14), (nt vs36 15), (nt vs36 16), (nt vs36 17), (nt vs36 18)] h37) fun o164 =>
 onEx o164.ex (j39 [] o164.h (o164.lg ++ l38)) (fun i165 => bif Nat.beq i165 2 then j39 [] o164.h (o164.lg ++ l38) else none) (fin h (rsT (nt o164.vs 1) (some [])) o164.h (o164.lg ++ l38))) fun j35 => fork v34
 (fin h (rsT (.bool false) (some [])) h31 (l32 ++ l23))
 (j35 [(nt vs21 0), (nt vs21 1), (nt vs21 7), (nt vs21 8), (nt vs21 9), (nt vs21 10), (nt vs21 11), (nt vs21 12), (nt vs21 13), (nt vs21 14), (nt vs21 15), (nt vs21 16), (nt vs21 17), (nt vs21 18), (nt vs21 19), (nt vs21 20), (nt vs21 21), (nt vs21 22), (nt vs21 23)] h31 (l32 ++ l23))) fun j20 =>
 ob (lp (F_k151_L122 call lp) [(nt vs17 0), (nt vs17 1), (.int .i64 0), (nt vs17 2), (nt vs17 3), (nt vs17 4), (nt vs17 5), (nt vs17 6), (nt vs17 7), (nt vs17 8), (nt vs17 9), (nt vs17 10), (nt vs17 11), (nt vs17 12), (nt vs17 13), (nt vs17 14), (nt vs17 15), (nt vs17 16), (nt vs17 17), (nt vs17 18), (nt vs17 19), (nt vs17 20), (nt vs17 21), (nt vs17 22), (nt vs17 23), (nt vs17 24), (nt vs17 25), (nt vs17 26), (nt vs17 27), (nt vs17 28), (nt vs17 29), (nt vs17 30), (nt vs17 31), (nt vs17 32), (nt vs17 33)] h18) fun o208 =>
 onEx o208.ex (j20 [(nt o208.vs 0), (nt o208.vs 1), (nt o208.vs 13), (nt o208.vs 14), (nt o208.vs 15), (nt o208.vs 16), (nt o208.vs 17), (nt o208.vs 18), (nt o208.vs 19), (nt o208.vs 20), (nt o208.vs 21), (nt o208.vs 22), (nt o208.vs 23), (nt o208.vs 24), (nt o208.vs 25), (nt o208.vs 26), (nt o208.vs 27), (nt o208.vs 28), (nt o208.vs 29), (nt o208.vs 30), (nt o208.vs 31), (nt o208.vs 32), (nt o208.vs 33), (nt o208.vs 34)] o208.h (o208.lg ++ l19)) (fun i209 => bif Nat.beq i209 0 then j20 [(nt o208.vs 0), (nt o208.vs 1), (nt o208.vs 13), (nt o208.vs 14), (nt o208.vs 15), (nt o208.vs 16), (nt o208.vs 17), (nt o208.vs 18), (nt o208.vs 19), (nt o208.vs 20), (nt o208.vs 21), (nt o208.vs 22), (nt o208.vs 23), (nt o208.vs 24), (nt o208.vs 25), (nt o208.vs 26), (nt o208.vs 27), (nt o208.vs 28), (nt o208.vs 29), (nt o208.vs 30), (nt o208.vs 31), (nt o208.vs 32), (nt o208.vs 33), (nt o208.vs 34)] o208.h (o208.lg ++ l19) else none) (fin h (rsT (nt o208.vs 1) (some [])) o208.h (o208.lg ++ l19))) fun j16 => fork v15
 (fin h (rsT (.bool false) (some [])) h12 (l13 ++ (l6 ++ [])))
 (j16 [v0, (.bool false), poison, poison, poison, poison, poison, poison, poison, poison, poison, poison, poison, poison, poison, poison, poison, poison, poison, poison, poison, poison, poison, poison, poison, poison, poison, poison, poison, poison, poison, poison, poison, poison] h12 (l13 ++ (l6 ++ [])))

-- 152 cmp.isNaN[int]
noncomputable def F_k152 (call : CallF) (lp : LoopF) (x0 : Value) (h : H) : Option (Value × H × List Nat) :=
 ob (bI .neq x0 x0) fun v0 =>
 fin h (rsT v0 (some [])) h []

-- 153 cmp.isNaN[int64]
noncomputable def F_k153 (call : CallF) (lp : LoopF) (x0 : Value) (h : H) : Option (Value × H × List Nat) :=
 ob (bI .neq x0 x0) fun v0 =>
 fin h (rsT v0 (some [])) h []

-- 154 cmp.isNaN[string]
noncomputable def F_k154 (call : CallF) (lp : LoopF) (x0 : Value) (h : H) : Option (Value × H × List Nat) :=
 ob (binV pgB.ty (tyD .string) .neq x0 x0) fun v0 =>
 fin h (rsT v0 (some [])) h []

-- 155 slices.BinarySearchFunc[[]asterism/omap.pair[asterism/api.Value, []int],asterism/omap.pair[asterism/api.Value, []int],asterism/api.Value]
noncomputable def F_k155_L124 (call : CallF) (lp : LoopF) : List Value → H → Option LOut := fun vs20 h21 =>
 ob (bI .lss (nt vs20 6) (nt vs20 7)) fun v22 =>
 jn3 (fun vs24 h25 l26 =>
 jn3 (fun vs28 h29 l30 =>
 some ⟨.normal, [(nt vs28 0), (nt vs28 1), (nt vs28 2), (nt vs28 3), (nt vs28 4), (nt vs28 5), (nt vs28 6), (nt vs28 7), (nt vs28 8), (nt vs28 9), (nt vs28 10), (nt vs28 11), (nt vs28 12), (nt vs28 13), (nt vs28 14), (nt vs28 15)], h29, l30⟩) fun j27 =>
 ob (bI .add (nt vs24 6) (nt vs24 7)) fun v31 =>
 ob (rCvI .u64 v31) fun v32 =>
 ob (binV pgB.ty (tyD (.int .u64)) .shr v32 (.int .u64 1)) fun v33 =>
 ob (rCvI .i64 v33) fun v34 =>
 ob (rIdxS 4 (nt vs24 0) v34) fun v35 =>
 ob (rLdA h25.get 4 v35) fun v36 =>
 ob (rLdA h25.get 3 (nt vs24 2)) fun v37 =>
 hv (callV call h25 (nt vs24 1) [v36, v37]) fun v38 h39 l40 =>
 ob (bI .lss v38 (.int .i64 0)) fun v41 =>
 dr [0, 0, 0, 6, 14, 0, 63, 127] [mP h25, mP h25, mP h25, mP h25, mR h25 (rdP v35), mR h25 (rdP (nt vs24 2)), mH h25 (rdL [v36, v37]) l40 h39, mP h39] fun l42 =>
 jn3 (fun vs44 h45 l46 =>
 j27 [(nt vs44 0), (nt vs44 1), (nt vs44 2), (nt vs44 3), (nt vs44 4), (nt vs44 5), (nt vs44 6), (nt vs44 7), (nt vs44 8), (nt vs44 9), (nt vs44 10), (nt vs44 11), (nt vs44 12), (nt vs44 13), (nt vs44 14), (nt vs44 15)] h45 l46) fun j43 => fork v41
 (ob (bI .add v34 (.int .i64 1)) fun v47 =>
 j43 [(nt vs24 0), (nt vs24 1), (nt vs24 2), (nt vs24 3), (nt vs24 4), (nt vs24 5), v47, (nt vs24 7), (nt vs24 8), (nt vs24 9), (nt vs24 10), (nt vs24 11), (nt vs24 12), (nt vs24 13), (nt vs24 14), (nt vs24 15)] h39 (l42 ++ l26))
 (j43 [(nt vs24 0), (nt vs24 1), (nt vs24 2), (nt vs24 3), (nt vs24 4), (nt vs24 5), (nt vs24 6), v34, (nt vs24 8), (nt vs24 9), (nt vs24 10), (nt vs24 11), (nt vs24 12), (nt vs24 13), (nt vs24 14), (nt vs24 15)] h39 (l42 ++ l26))) fun j23 => fork v22
 (j23 [(nt vs20 0), (nt vs20 1), (nt vs20 2), (nt vs20 3), (nt vs20 4), (nt vs20 5), (nt vs20 6), (nt vs20 7), (nt vs20 8), (nt vs20 9), (nt vs20 10), (nt vs20 11), (nt vs20 12), (nt vs20 13), (nt vs20 14), (nt vs20 15)] h21 [])
 (some ⟨(.exit 0), [(nt vs20 0), (nt vs20 1), (nt vs20 2), (nt vs20 3), (nt vs20 4), (nt vs20 5), (nt vs20 6), (nt vs20 7), (nt vs20 8), (nt vs20 9), (nt vs20 10), (nt vs20 11), (nt vs20 12), (nt vs20 13), (nt vs20 14), (nt vs20 15)], h21, []⟩)
noncomputable def F_k155 (call : CallF) (lp : LoopF) (x0 : Value) (x1 : Value) (x2 : Value) (h : H) : Option (Value × H × List Nat) :=
 al (aBx h.n T_api_Value 3 x1) h fun v0 h1 =>
 ob (rLenL x0) fun v2 =>
 jn3 (fun vs4 h5 l6 =>
 ob (bI .lss (nt vs4 4) (nt vs4 3)) fun v7 =>
 gP (gd v7 true) (some (nt vs4 1)) fun v8 =>
 gP (gd v7 true) (some (nt vs4 0)) fun v9 =>
 gP (gd v7 true) (some (nt vs4 4)) fun v10 =>
 gP (gd v7 true) (rIdxS 4 v9 v10) fun v11 =>
 gP (gd v7 true) (rLdA h5.get 4 v11) fun v12 =>
 gP (gd v7 true) (rLdA h5.get 3 (nt vs4 2)) fun v13 =>
 hv (gV (gd v7 true) (callV call h5 v8 [v12, v13]) h5) fun v14 h15 l16 =>
 gP (gd v7 true) (bI .eql v14 (.int .i64 0)) fun v17 =>
 ob (rPick v7 v17 (.bool false)) fun v18 =>
 dr [0, 0, 0, 6, 14, 30, 30, 30, 222, 478, 30, 2046, 4094, 8190, 4095, 32767] [mP h5, mP h5, mP h5, mP h5, mP h5, mG (gd v7 true) .pure [] h5 h5 [], mG (gd v7 true) .pure [] h5 h5 [], mG (gd v7 true) .pure [] h5 h5 [], mG (gd v7 true) .pure [] h5 h5 [], mG (gd v7 true) .pure (rdP v11) h5 h5 [], mG (gd v7 true) .pure (rdP (nt vs4 2)) h5 h5 [], mG (gd v7 true) .heavy (rdL [v12, v13]) h5 h15 l16, mG (gd v7 true) .pure [] h15 h15 [], mP h15, mP h15, mP h15] fun l19 =>
 fin h (rsT (nt vs4 4) (rsT v18 (some []))) h15 (l19 ++ l6)) fun j3 =>
 ob (lp (F_k155_L124 call lp) [x0, x2, v0, (.int .i64 0), (.bool false), v2, (.int .i64 0), v2, poison, poison, poison, poison, poison, poison, poison, poison] h1) fun o48 =>
 onEx o48.ex (j3 [(nt o48.vs 0), (nt o48.vs 1), (nt o48.vs 2), (nt o48.vs 5), (nt o48.vs 6), (nt o48.vs 8), (nt o48.vs 9), (nt o48.vs 10), (nt o48.vs 11), (nt o48.vs 12), (nt o48.vs 13), (nt o48.vs 14), (nt o48.vs 15)] o48.h (o48.lg ++ [])) (fun i49 => bif Nat.beq i49 0 then j3 [(nt o48.vs 0), (nt o48.vs 1), (nt o48.vs 2), (nt o48.vs 5), (nt o48.vs 6), (nt o48.vs 8), (nt o48.vs 9), (nt o48.vs 10), (nt o48.vs 11), (nt o48.vs 12), (nt o48.vs 13), (nt o48.vs 14), (nt o48.vs 15)] o48.h (o48.lg ++ []) else none) (fin h (rsT (nt o48.vs 3) (rsT (nt o48.vs 4) (some []))) o48.h (o48.lg ++ []))

-- 156 (*asterism/omap.Map[asterism/api.Value, []int]).find$1
noncomputable def F_k156 (call : CallF) (lp : LoopF) (x0 : Value) (x1 : Value) (x2 : Value) (h : H) : Option (Value × H × List Nat) :=
 al (aBx h.n T_omap_pair_api_Value_int 4 x0) h fun v0 h1 =>
 al (aBx h1.n T_api_Value 3 x1) h1 fun v2 h3 =>
 ob (rLd1 h3.get x2) fun v4 =>
 ob (rNil v4) fun v5 =>
 ob (rFld 0 v5) fun v6 =>
 ob (rLd1 h3.get v6) fun v7 =>
 ob (rFld 0 v0) fun v8 =>
 ob (rLdA h3.get 3 v8) fun v9 =>
 ob (rLdA h3.get 3 v2) fun v10 =>
 hv (callV call h3 v7 [v9, v10]) fun v11 h12 l13 =>
 dr [0, 1, 3, 7, 0, 16, 0, 127, 255] [mR h3 (rdP x2), mP h3, mP h3, mR h3 (rdP v6), mP h3, mR h3 (rdP v8), mR h3 (rdP v2), mH h3 (rdL [v9, v10]) l13 h12, mP h12] fun l14 =>
 fin h (rsT v11 (some [])) h12 (l14 ++ [])

-- 159 slices.BinarySearchFunc[[]asterism/omap.pair[asterism/api.Value, asterism/bitmap.Map],asterism/omap.pair[asterism/api.Value, asterism/bitmap.Map],asterism/api.Value]
noncomputable def F_k159_L124 (call : CallF) (lp : LoopF) : List Value → H → Option LOut := fun vs20 h21 =>
 ob (bI .lss (nt vs20 6) (nt vs20 7)) fun v22 =>
 jn3 (fun vs24 h25 l26 =>
 jn3 (fun vs28 h29 l30 =>
 some ⟨.normal, [(nt vs28 0), (nt vs28 1), (nt vs28 2), (nt vs28 3), (nt vs28 4), (nt vs28 5), (nt vs28 6), (nt vs28 7), (nt vs28 8), (nt vs28 9), (nt vs28 10), (nt vs28 11), (nt vs28 12), (nt vs28 13), (nt vs28 14), (nt vs28 15)], h29, l30⟩) fun j27 =>
 ob (bI .add (nt vs24 6) (nt vs24 7)) fun v31 =>
 ob (rCvI .u64 v31) fun v32 =>
 ob (binV pgB.ty (tyD (.int .u64)) .shr v32 (.int .u64 1)) fun v33 =>
 ob (rCvI .i64 v33) fun v34 =>
 ob (rIdxS 4 (nt vs24 0) v34) fun v35 =>
 ob (rLdA h25.get 4 v35) fun v36 =>
 ob (rLdA h25.get 3 (nt vs24 2)) fun v37 =>
 hv (callV call h25 (nt vs24 1) [v36, v37]) fun v38 h39 l40 =>
 ob (bI .lss v38 (.int .i64 0)) fun v41 =>
 dr [0, 0, 0, 6, 14, 0, 63, 127] [mP h25, mP h25, mP h25, mP h25, mR h25 (rdP v35), mR h25 (rdP (nt vs24 2)), mH h25 (rdL [v36, v37]) l40 h39, mP h39] fun l42 =>
 jn3 (fun vs44 h45 l46 =>
 j27 [(nt vs44 0), (nt vs44 1), (nt vs44 2), (nt vs44 3), (nt vs44 4), (nt vs44 5), (nt vs44 6), (nt vs44 7), (nt vs44 8), (nt vs44 9), (nt vs44 10), (nt vs44 11), (nt vs44 12), (nt vs44 13), (nt vs44 14), (nt vs44 15)] h45 l46) fun j43 => fork v41
 (ob (bI .add v34 (.int .i64 1)) fun v47 =>
 j43 [(nt vs24 0), (nt vs24 1), (nt vs24 2), (nt vs24 3), (nt vs24 4), (nt vs24 5), v47, (nt vs24 7), (nt vs24 8), (nt vs24 9), (nt vs24 10), (nt vs24 11), (nt vs24 12), (nt vs24 13), (nt vs24 14), (nt vs24 15)] h39 (l42 ++ l26))
 (j43 [(nt vs24 0), (nt vs24 1), (nt vs24 2), (nt vs24 3), (nt vs24 4), (nt vs24 5), (nt vs24 6), v34, (nt vs24 8), (nt vs24 9), (nt vs24 10), (nt vs24 11), (nt vs24 12), (nt vs24 13), (nt vs24 14), (nt vs24 15)] h39 (l42 ++ l26))) fun j23 => fork v22
 (j23 [(nt vs20 0), (nt vs20 1), (nt vs20 2), (nt vs20 3), (nt vs20 4), (nt vs20 5), (nt vs20 6), (nt vs20 7), (nt vs20 8), (nt vs20 9), (nt vs20 10), (nt vs20 11), (nt vs20 12), (nt vs20 13), (nt vs20 14), (nt vs20 15)] h21 [])
 (some ⟨(.exit 0), [(nt vs20 0), (nt vs20 1), (nt vs20 2), (nt vs20 3), (nt vs20 4), (nt vs20 5), (nt vs20 6), (nt vs20 7), (nt vs20 8), (nt vs20 9), (nt vs20 10), (nt vs20 11), (nt vs20 12), (nt vs20 13), (nt vs20 14), (nt vs20 15)], h21, []⟩)
noncomputable def F_k159 (call : CallF) (lp : LoopF) (x0 : Value) (x1 : Value) (x2 : Value) (h : H) : Option (Value × H × List Nat) :=
 al (aBx h.n T_api_Value 3 x1) h fun v0 h1 =>
 ob (rLenL x0) fun v2 =>
 jn3 (fun vs4 h5 l6 =>
 ob (bI .lss (nt vs4 4) (nt vs4 3)) fun v7 =>
 gP (gd v7 true) (some (nt vs4 1)) fun v8 =>
 gP (gd v7 true) (some (nt vs4 0)) fun v9 =>
 gP (gd v7 true) (some (nt vs4 4)) fun v10 =>
 gP (gd v7 true) (rIdxS 4 v9 v10) fun v11 =>
 gP (gd v7 true) (rLdA h5.get 4 v11) fun v12 =>
 gP (gd v7 true) (rLdA h5.get 3 (nt vs4 2)) fun v13 =>
 hv (gV (gd v7 true) (callV call h5 v8 [v12, v13]) h5) fun v14 h15 l16 =>
 gP (gd v7 true) (bI .eql v14 (.int .i64 0)) fun v17 =>
 ob (rPick v7 v17 (.bool false)) fun v18 =>
 dr [0, 0, 0, 6, 14, 30, 30, 30, 222, 478, 30, 2046, 4094, 8190, 4095, 32767] [mP h5, mP h5, mP h5, mP h5, mP h5, mG (gd v7 true) .pure [] h5 h5 [], mG (gd v7 true) .pure [] h5 h5 [], mG (gd v7 true) .pure [] h5 h5 [], mG (gd v7 true) .pure [] h5 h5 [], mG (gd v7 true) .pure (rdP v11) h5 h5 [], mG (gd v7 true) .pure (rdP (nt vs4 2)) h5 h5 [], mG (gd v7 true) .heavy (rdL [v12, v13]) h5 h15 l16, mG (gd v7 true) .pure [] h15 h15 [], mP h15, mP h15, mP h15] fun l19 =>
 fin h (rsT (nt vs4 4) (rsT v18 (some []))) h15 (l19 ++ l6)) fun j3 =>
 ob (lp (F_k159_L124 call lp) [x0, x2, v0, (.int .i64 0), (.bool false), v2, (.int .i64 0), v2, poison, poison, poison, poison, poison, poison, poison, poison] h1) fun o48 =>
 onEx o48.ex (j3 [(nt o48.vs 0), (nt o48.vs 1), (nt o48.vs 2), (nt o48.vs 5), (nt o48.vs 6), (nt o48.vs 8), (nt o48.vs 9), (nt o48.vs 10), (nt o48.vs 11), (nt o48.vs 12), (nt o48.vs 13), (nt o48.vs 14), (nt o48.vs 15)] o48.h (o48.lg ++ [])) (fun i49 => bif Nat.beq i49 0 then j3 [(nt o48.vs 0), (nt o48.vs 1), (nt o48.vs 2), (nt o48.vs 5), (nt o48.vs 6), (nt o48.vs 8), (nt o48.vs 9), (nt o48.vs 10), (nt o48.vs 11), (nt o48.vs 12), (nt o48.vs 13), (nt o48.vs 14), (nt o48.vs 15)] o48.h (o48.lg ++ []) else none) (fin h (rsT (nt o48.vs 3) (rsT (nt o48.vs 4) (some []))) o48.h (o48.lg ++ []))

-- 160 (*asterism/omap.Map[asterism/api.Value, asterism/bitmap.Map]).find$1
noncomputable def F_k160 (call : CallF) (lp : LoopF) (x0 : Value) (x1 : Value) (x2 : Value) (h : H) : Option (Value × H × List Nat) :=
 al (aBx h.n T_omap_pair_api_Value_bitmap_Map 4 x0) h fun v0 h1 =>
 al (aBx h1.n T_api_Value 3 x1) h1 fun v2 h3 =>
 ob (rLd1 h3.get x2) fun v4 =>
 ob (rNil v4) fun v5 =>
 ob (rFld 0 v5) fun v6 =>
 ob (rLd1 h3.get v6) fun v7 =>
 ob (rFld 0 v0) fun v8 =>
 ob (rLdA h3.get 3 v8) fun v9 =>
 ob (rLdA h3.get 3 v2) fun v10 =>
 hv (callV call h3 v7 [v9, v10]) fun v11 h12 l13 =>
 dr [0, 1, 3, 7, 0, 16, 0, 127, 255] [mR h3 (rdP x2), mP h3, mP h3, mR h3 (rdP v6), mP h3, mR h3 (rdP v8), mR h3 (rdP v2), mH h3 (rdL [v9, v10]) l13 h12, mP h12] fun l14 =>
 fin h (rsT v11 (some [])) h12 (l14 ++ [])

-- 163 slices.pdqsortOrdered[int]
noncomputable def F_k163_L30 (call : CallF) (lp : LoopF) : List Value → H → Option LOut := fun vs4 h5 =>
 jn3 (fun vs7 h8 l9 =>
 some ⟨.normal, [(nt vs7 0), (nt vs7 1), (nt vs7 2), (nt vs7 3), (nt vs7 4), (nt vs7 5), (nt vs7 6), (nt vs7 7), (nt vs7 8), (nt vs7 9), (nt vs7 10), (nt vs7 11), (nt vs7 12), (nt vs7 13), (nt vs7 14), (nt vs7 15), (nt vs7 16), (nt vs7 17), (nt vs7 18), (nt vs7 19)], h8, l9⟩) fun j6 =>
 ob (bI .sub (nt vs4 2) (nt vs4 1)) fun v10 =>
 ob (bI .leq v10 (.int .i64 12)) fun v11 =>
 jn3 (fun vs13 h14 l15 =>
 ob (bI .eql (nt vs13 3) (.int .i64 0)) fun v16 =>
 jn3 (fun vs18 h19 l20 =>
 ob (unV .not (nt vs18 4)) fun v21 =>
 jn3 (fun vs23 h24 l25 =>
 hv (call (.fn N_k192) [(nt vs23 0), (nt vs23 1), (nt vs23 2)] h24) fun v26 h27 l28 =>
 ob (rExtract 0 v26) fun v29 =>
 ob (rExtract 1 v26) fun v30 =>
 ob (bI .eql v30 (.int .i64 2)) fun v31 =>
 jn3 (fun vs33 h34 l35 =>
 gP (gd (nt vs33 4) true) (some (nt vs33 5)) fun v36 =>
 ob (rPick (nt vs33 4) v36 (.bool false)) fun v37 =>
 gP (gd v37 true) (some (nt vs33 8)) fun v38 =>
 gP (gd v37 true) (bI .eql v38 (.int .i64 1)) fun v39 =>
 ob (rPick v37 v39 (.bool false)) fun v40 =>
 jn3 (fun vs42 h43 l44 =>
 ob (bI .gtr (nt vs42 1) (.int .i64 0)) fun v45 =>
 gP (gd v45 true) (some (nt vs42 0)) fun v46 =>
 gP (gd v45 true) (some (nt vs42 1)) fun v47 =>
 gP (gd v45 true) (bI .sub v47 (.int .i64 1)) fun v48 =>
 gP (gd v45 true) (rIdxS 1 v46 v48) fun v49 =>
 gP (gd v45 true) (rLd1 h43.get v49) fun v50 =>
 gP (gd v45 true) (some (nt vs42 0)) fun v51 =>
 gP (gd v45 true) (some (nt vs42 7)) fun v52 =>
 gP (gd v45 true) (rIdxS 1 v51 v52) fun v53 =>
 gP (gd v45 true) (rLd1 h43.get v53) fun v54 =>
 hv (gV (gd v45 true) (call (.fn N_k195) [v50, v54] h43) h43) fun v55 h56 l57 =>
 gP (gd v45 true) (unV .not v55) fun v58 =>
 ob (rPick v45 v58 (.bool false)) fun v59 =>
 dr [0, 1, 3, 7, 7, 23, 63, 127, 7, 7, 775, 1799, 4095, 8191, 16383] [mP h43, mP h43, mP h43, mG (gd v45 true) .pure [] h43 h43 [], mG (gd v45 true) .pure [] h43 h43 [], mG (gd v45 true) .pure [] h43 h43 [], mG (gd v45 true) .pure [] h43 h43 [], mG (gd v45 true) .pure (rdP v49) h43 h43 [], mG (gd v45 true) .pure [] h43 h43 [], mG (gd v45 true) .pure [] h43 h43 [], mG (gd v45 true) .pure [] h43 h43 [], mG (gd v45 true) .pure (rdP v53) h43 h43 [], mG (gd v45 true) .heavy (rdL [v50, v54]) h43 h56 l57, mG (gd v45 true) .pure [] h56 h56 [], mP h56] fun l60 =>
 jn3 (fun vs62 h63 l64 =>
 hv (call (.fn N_k197) [(nt vs62 0), (nt vs62 1), (nt vs62 2), (nt vs62 5)] h63) fun v65 h66 l67 =>
 ob (rExtract 0 v65) fun v68 =>
 ob (rExtract 1 v65) fun v69 =>
 ob (bI .sub v68 (nt vs62 1)) fun v70 =>
 ob (bI .sub (nt vs62 2) v68) fun v71 =>
 ob (bI .quo (nt vs62 4) (.int .i64 8)) fun v72 =>
 ob (bI .lss v70 v71) fun v73 =>
 jn3 (fun vs75 h76 l77 =>
 j6 [(nt vs75 0), (nt vs75 1), (nt vs75 2), (nt vs75 3), (nt vs75 4), (nt vs75 5), (nt vs75 6), (nt vs75 7), (nt vs75 8), (nt vs75 9), (nt vs75 10), (nt vs75 11), (nt vs75 12), (nt vs75 13), (nt vs75 14), (nt vs75 15), (nt vs75 16), (nt vs75 17), (nt vs75 18), (nt vs75 19)] h76 l77) fun j74 => fork v73
 (ob (bI .geq v70 v72) fun v78 =>
 hv (call (.fn N_k163) [(nt vs62 0), (nt vs62 1), v68, (nt vs62 3)] h66) fun v79 h80 l81 =>
 ob (bI .add v68 (.int .i64 1)) fun v82 =>
 j74 [(nt vs62 0), v82, (nt vs62 2), (nt vs62 3), v78, v69, (nt vs62 6), (nt vs62 7), (nt vs62 8), (nt vs62 9), (nt vs62 10), (nt vs62 11), (nt vs62 12), (nt vs62 13), (nt vs62 14), (nt vs62 15), (nt vs62 16), (nt vs62 17), (nt vs62 18), (nt vs62 19)] h80 (l81 ++ (l67 ++ l64)))
 (ob (bI .geq v71 v72) fun v83 =>
 ob (bI .add v68 (.int .i64 1)) fun v84 =>
 hv (call (.fn N_k163) [(nt vs62 0), v84, (nt vs62 2), (nt vs62 3)] h66) fun v85 h86 l87 =>
 j74 [(nt vs62 0), (nt vs62 1), v68, (nt vs62 3), v83, v69, (nt vs62 6), (nt vs62 7), (nt vs62 8), (nt vs62 9), (nt vs62 10), (nt vs62 11), (nt vs62 12), (nt vs62 13), (nt vs62 14), (nt vs62 15), (nt vs62 16), (nt vs62 17), (nt vs62 18), (nt vs62 19)] h86 (l87 ++ (l67 ++ l64)))) fun j61 => fork v59
 (hv (call (.fn N_k196) [(nt vs42 0), (nt vs42 1), (nt vs42 2), (nt vs42 7)] h56) fun v88 h89 l90 =>
 j6 [(nt vs42 0), v88, (nt vs42 2), (nt vs42 3), (nt vs42 4), (nt vs42 5), (nt vs42 8), (nt vs42 9), (nt vs42 10), v46, v47, v48, v49, v50, v51, v52, v53, v54, v55, v58] h89 (l90 ++ (l60 ++ l44)))
 (j61 [(nt vs42 0), (nt vs42 1), (nt vs42 2), (nt vs42 3), (nt vs42 6), (nt vs42 7), (nt vs42 8), (nt vs42 9), (nt vs42 10), v46, v47, v48, v49, v50, v51, v52, v53, v54, v55, v58] h56 (l60 ++ l44))) fun j41 => fork v40
 (hv (call (.fn N_k194) [(nt vs33 0), (nt vs33 1), (nt vs33 2)] h34) fun v91 h92 l93 =>
 jn3 (fun vs95 h96 l97 =>
 j41 [(nt vs95 0), (nt vs95 1), (nt vs95 2), (nt vs95 3), (nt vs95 4), (nt vs95 5), (nt vs95 6), (nt vs95 7), (nt vs95 8), (nt vs95 9), (nt vs95 10), (nt vs95 11), (nt vs95 12), (nt vs95 13), (nt vs95 14), (nt vs95 15), (nt vs95 16), (nt vs95 17), (nt vs95 18), (nt vs95 19), (nt vs95 20), (nt vs95 21)] h96 l97) fun j94 => fork v91
 (some ⟨.ret, [(nt vs33 0), (nt vs33 1), (nt vs33 2), (nt vs33 3), (nt vs33 4), (nt vs33 5), v36, v38, v39, (nt vs33 12), (nt vs33 13), (nt vs33 14), (nt vs33 15), (nt vs33 16), (nt vs33 17), (nt vs33 18), (nt vs33 19), (nt vs33 20), (nt vs33 21), (nt vs33 22)], h92, (l93 ++ l35)⟩)
 (j94 [(nt vs33 0), (nt vs33 1), (nt vs33 2), (nt vs33 3), (nt vs33 4), (nt vs33 5), (nt vs33 6), (nt vs33 7), v36, v38, v39, (nt vs33 12), (nt vs33 13), (nt vs33 14), (nt vs33 15), (nt vs33 16), (nt vs33 17), (nt vs33 18), (nt vs33 19), (nt vs33 20), (nt vs33 21), (nt vs33 22)] h92 (l93 ++ l35)))
 (j41 [(nt vs33 0), (nt vs33 1), (nt vs33 2), (nt vs33 3), (nt vs33 4), (nt vs33 5), (nt vs33 6), (nt vs33 7), v36, v38, v39, (nt vs33 12), (nt vs33 13), (nt vs33 14), (nt vs33 15), (nt vs33 16), (nt vs33 17), (nt vs33 18), (nt vs33 19), (nt vs33 20), (nt vs33 21), (nt vs33 22)] h34 l35)) fun j32 => fork v31
 (hv (call (.fn N_k193) [(nt vs23 0), (nt vs23 1), (nt vs23 2)] h27) fun v98 h99 l100 =>
 ob (bI .sub (nt vs23 2) (.int .i64 1)) fun v101 =>
 ob (bI .sub v29 (nt vs23 1)) fun v102 =>
 ob (bI .sub v101 v102) fun v103 =>
 j32 [(nt vs23 0), (nt vs23 1), (nt vs23 2), (nt vs23 3), (nt vs23 4), (nt vs23 5), (nt vs23 6), v103, (.int .i64 1), (nt vs23 7), (nt vs23 8), (nt vs23 9), (nt vs23 10), (nt vs23 11), (nt vs23 12), (nt vs23 13), (nt vs23 14), (nt vs23 15), (nt vs23 16), (nt vs23 17), (nt vs23 18), (nt vs23 19), (nt vs23 20)] h99 (l100 ++ (l28 ++ l25)))
 (j32 [(nt vs23 0), (nt vs23 1), (nt vs23 2), (nt vs23 3), (nt vs23 4), (nt vs23 5), (nt vs23 6), v29, v30, (nt vs23 7), (nt vs23 8), (nt vs23 9), (nt vs23 10), (nt vs23 11), (nt vs23 12), (nt vs23 13), (nt vs23 14), (nt vs23 15), (nt vs23 16), (nt vs23 17), (nt vs23 18), (nt vs23 19), (nt vs23 20)] h27 (l28 ++ l25))) fun j22 => fork v21
 (hv (call (.fn N_k191) [(nt vs18 0), (nt vs18 1), (nt vs18 2)] h19) fun v104 h105 l106 =>
 ob (bI .sub (nt vs18 3) (.int .i64 1)) fun v107 =>
 j22 [(nt vs18 0), (nt vs18 1), (nt vs18 2), v107, (nt vs18 4), (nt vs18 5), (nt vs18 6), (nt vs18 7), (nt vs18 8), (nt vs18 9), (nt vs18 10), (nt vs18 11), (nt vs18 12), (nt vs18 13), (nt vs18 14), (nt vs18 15), (nt vs18 16), (nt vs18 17), (nt vs18 18), (nt vs18 19), (nt vs18 20)] h105 (l106 ++ l20))
 (j22 [(nt vs18 0), (nt vs18 1), (nt vs18 2), (nt vs18 3), (nt vs18 4), (nt vs18 5), (nt vs18 6), (nt vs18 7), (nt vs18 8), (nt vs18 9), (nt vs18 10), (nt vs18 11), (nt vs18 12), (nt vs18 13), (nt vs18 14), (nt vs18 15), (nt vs18 16), (nt vs18 17), (nt vs18 18), (nt vs18 19), (nt vs18 20)] h19 l20)) fun j17 => fork v16
 (hv (call (.fn N_k190) [(nt vs13 0), (nt vs13 1), (nt vs13 2)] h14) fun v108 h109 l110 =>
 some ⟨.ret, [(nt vs13 0), (nt vs13 1), (nt vs13 2), (nt vs13 3), (nt vs13 4), (nt vs13 5), (nt vs13 7), (nt vs13 8), (nt vs13 9), (nt vs13 10), (nt vs13 11), (nt vs13 12), (nt vs13 13), (nt vs13 14), (nt vs13 15), (nt vs13 16), (nt vs13 17), (nt vs13 18), (nt vs13 19), (nt vs13 20)], h109, (l110 ++ l15)⟩)
 (j17 [(nt vs13 0), (nt vs13 1), (nt vs13 2), (nt vs13 3), (nt vs13 4), (nt vs13 5), (nt vs13 6), (nt vs13 7), (nt vs13 8), (nt vs13 9), (nt vs13 10), (nt vs13 11), (nt vs13 12), (nt vs13 13), (nt vs13 14), (nt vs13 15), (nt vs13 16), (nt vs13 17), (nt vs13 18), (nt vs13 19), (nt vs13 20)] h14 l15)) fun j12 => fork v11
 (hv (call (.fn N_k189) [(nt vs4 0), (nt vs4 1), (nt vs4 2)] h5) fun v111 h112 l113 =>
 some ⟨.ret, [(nt vs4 0), (nt vs4 1), (nt vs4 2), (nt vs4 3), (nt vs4 4), (nt vs4 5), (nt vs4 6), (nt vs4 7), (nt vs4 8), (nt vs4 9), (nt vs4 10), (nt vs4 11), (nt vs4 12), (nt vs4 13), (nt vs4 14), (nt vs4 15), (nt vs4 16), (nt vs4 17), (nt vs4 18), (nt vs4 19)], h112, (l113 ++ [])⟩)
 (j12 [(nt vs4 0), (nt vs4 1), (nt vs4 2), (nt vs4 3), (nt vs4 4), (nt vs4 5), v10, (nt vs4 6), (nt vs4 7), (nt vs4 8), (nt vs4 9), (nt vs4 10), (nt vs4 11), (nt vs4 12), (nt vs4 13), (nt vs4 14), (nt vs4 15), (nt vs4 16), (nt vs4 17), (nt vs4 18), (nt vs4 19)] h5 [])
noncomputable def F_k163 (call : CallF) (lp : LoopF) (x0 : Value) (x1 : Value) (x2 : Value) (x3 : Value) (h : H) : Option (Value × H × List Nat) :=
 jn3 (fun vs1 h2 l3 =>
 fin h (some []) h2 l3) fun j0 =>
 ob (lp (F_k163_L30 call lp) [x0, x1, x2, x3, (.bool true), (.bool true), poison, poison, poison, poison, poison, poison, poison, poison, poison, poison, poison, poison, poison, poison] h) fun o114 =>
 onEx o114.ex (j0 [] o114.h (o114.lg ++ [])) (fun i115 => bif Nat.beq i115 0 then j0 [] o114.h (o114.lg ++ []) else none) (fin h (some []) o114.h (o114.lg ++ []))

-- 164 math/bits.Len
noncomputable def F_k164 (call : CallF) (lp : LoopF) (x0 : Value) (h : H) : Option (Value × H × List Nat) :=
 jn3 (fun vs1 h2 l3 =>
 hv (call (.fn N_k199) [(nt vs1 0)] h2) fun v4 h5 l6 =>
 fin h (rsT v4 (some [])) h5 (l6 ++ l3)) fun j0 => fork (.bool false)
 (ob (rCvI .u32 x0) fun v7 =>
 hv (call (.fn N_k198) [v7] h) fun v8 h9 l10 =>
 fin h (rsT v8 (some [])) h9 (l10 ++ []))
 (j0 [x0] h [])

-- 165 (*asterism/table.Table).may
noncomputable def F_k165 (call : CallF) (lp : LoopF) (x0 : Value) (x1 : Value) (x2 : Value) (h : H) : Option (Value × H × List Nat) :=
 al (aBx h.n T_api_Value 3 x2) h fun v0 h1 =>
 ob (rFld 0 v0) fun v2 =>
 ob (rLd1 h1.get v2) fun v3 =>
 ob (bI .eql v3 (.int .i64 0)) fun v4 =>
 gP (gd v4 false) (rFld 0 v0) fun v5 =>
 gP (gd v4 false) (rLd1 h1.get v5) fun v6 =>
 gP (gd v4 false) (some x0) fun v7 =>
 gP (gd v4 false) (rNil v7) fun v8 =>
 gP (gd v4 false) (rFld 0 v8) fun v9 =>
 gP (gd v4 false) (rFld 1 v9) fun v10 =>
 gP (gd v4 false) (rLd1 h1.get v10) fun v11 =>
 gP (gd v4 false) (some x1) fun v12 =>
 gP (gd v4 false) (rIdxS 4 v11 v12) fun v13 =>
 gP (gd v4 false) (rFld 1 v13) fun v14 =>
 gP (gd v4 false) (rLd1 h1.get v14) fun v15 =>
 gP (gd v4 false) (bI .eql v6 v15) fun v16 =>
 ob (rPick v4 (.bool true) v16) fun v17 =>
 gP (gd v17 true) (rLdA h1.get 3 v0) fun v18 =>
 hv (gV (gd v17 true) (call (.fn N_k200) [v18] h1) h1) fun v19 h20 l21 =>
 ob (rPick v17 v19 (.bool false)) fun v22 =>
 dr [0, 1, 3, 7, 15, 31, 15, 79, 207, 463, 975, 15, 4047, 8143, 16335, 32767, 65535, 131071, 262143, 524287, 1048575, 2097151] [mP h1, mR h1 (rdP v2), mP h1, mP h1, mG (gd v4 false) .pure [] h1 h1 [], mG (gd v4 false) .pure (rdP v5) h1 h1 [], mG (gd v4 false) .pure [] h1 h1 [], mG (gd v4 false) .pure [] h1 h1 [], mG (gd v4 false) .pure [] h1 h1 [], mG (gd v4 false) .pure [] h1 h1 [], mG (gd v4 false) .pure (rdP v10) h1 h1 [], mG (gd v4 false) .pure [] h1 h1 [], mG (gd v4 false) .pure [] h1 h1 [], mG (gd v4 false) .pure [] h1 h1 [], mG (gd v4 false) .pure (rdP v14) h1 h1 [], mG (gd v4 false) .pure [] h1 h1 [], mP h1, mP h1, mG (gd v17 true) .pure (rdP v0) h1 h1 [], mG (gd v17 true) .heavy (rdL [v18]) h1 h20 l21, mP h20, mP h20] fun l23 =>
 fin h (rsT v22 (some [])) h20 (l23 ++ [])

-- 166 asterism/asterismref12.typed
noncomputable def F_k166 (call : CallF) (lp : LoopF) (x0 : Value) (x1 : Value) (h : H) : Option (Value × H × List Nat) :=
 al (aBx h.n T_api_Value 3 x0) h fun v0 h1 =>
 al (aBx h1.n T_api_Col 4 x1) h1 fun v2 h3 =>
 ob (rLdA h3.get 3 v0) fun v4 =>
 hv (call (.fn N_k201) [v4] h3) fun v5 h6 l7 =>
 gP (gd v5 true) (rFld 0 v0) fun v8 =>
 gP (gd v5 true) (rLd1 h6.get v8) fun v9 =>
 gP (gd v5 true) (bI .eql v9 (.int .i64 0)) fun v10 =>
 gP (gd v5 true) (some v10) fun v11 =>
 gP (gd v11 false) (rFld 0 v0) fun v12 =>
 gP (gd v11 false) (rLd1 h6.get v12) fun v13 =>
 gP (gd v11 false) (rFld 1 v2) fun v14 =>
 gP (gd v11 false) (rLd1 h6.get v14) fun v15 =>
 gP (gd v11 false) (bI .eql v13 v15) fun v16 =>
 gP (gd v5 true) (rPick v11 (.bool true) v16) fun v17 =>
 ob (rPick v5 v17 (.bool false)) fun v18 =>
 fin h (rsT v18 (some [])) h6 (l7 ++ [])

-- 168 asterism/bitmap.And
noncomputable def F_k168_L122 (call : CallF) (lp : LoopF) : List Value → H → Option LOut := fun vs16 h17 =>
 ob (rFld 0 (nt vs16 0)) fun v18 =>
 ob (rLd1 h17.get v18) fun v19 =>
 ob (rLenL v19) fun v20 =>
 ob (bI .lss (nt vs16 4) v20) fun v21 =>
 gP (gd v21 true) (some (nt vs16 5)) fun v22 =>
 gP (gd v21 true) (rFld 0 (nt vs16 1)) fun v23 =>
 gP (gd v21 true) (rLd1 h17.get v23) fun v24 =>
 gP (gd v21 true) (rLenL v24) fun v25 =>
 gP (gd v21 true) (bI .lss v22 v25) fun v26 =>
 ob (rPick v21 v26 (.bool false)) fun v27 =>
 jn3 (fun vs29 h30 l31 =>
 jn3 (fun vs33 h34 l35 =>
 some ⟨.normal, [(nt vs33 0), (nt vs33 1), (nt vs33 2), (nt vs33 3), (nt vs33 4), (nt vs33 5), (nt vs33 6), (nt vs33 7), (nt vs33 8), (nt vs33 9), (nt vs33 10)], h34, l35⟩) fun j32 =>
 ob (rFld 0 (nt vs29 0)) fun v36 =>
 ob (rLd1 h30.get v36) fun v37 =>
 ob (rIdxS 2 v37 (nt vs29 4)) fun v38 =>
 ob (rLdA h30.get 2 v38) fun v39 =>
 ob (rFld 0 (nt vs29 1)) fun v40 =>
 ob (rLd1 h30.get v40) fun v41 =>
 ob (rIdxS 2 v41 (nt vs29 5)) fun v42 =>
 ob (rLdA h30.get 2 v42) fun v43 =>
 al (aNew h30.n T_A2i64 [(.int .i64 0), (.int .i64 0)]) h30 fun v44 h45 =>
 al (aNew h45.n T_A2i64 [(.int .i64 0), (.int .i64 0)]) h45 fun v46 h47 =>
 hv (rStore h47 2 v44 v39) fun v48 h49 l50 =>
 hv (rStore h49 2 v46 v43) fun v51 h52 l53 =>
 dr [0, 1, 0, 7, 15, 0, 32, 0, 224, 480, 0, 0, 3103, 8191] [mP h30, mR h30 (rdP v36), mP h30, mP h30, mR h30 (rdP v38), mP h30, mR h30 (rdP v40), mP h30, mP h30, mR h30 (rdP v42), mA h30 [], mA h45 [], mH h47 [] l50 h49, mH h49 [] l53 h52] fun l54 =>
 ob (rIdxA 2 1 v44 (.int .i64 0)) fun v55 =>
 ob (rLd1 h52.get v55) fun v56 =>
 ob (rIdxA 2 1 v46 (.int .i64 0)) fun v57 =>
 ob (rLd1 h52.get v57) fun v58 =>
 ob (foldMM true v56 [v58]) fun v59 =>
 ob (rIdxA 2 1 v44 (.int .i64 1)) fun v60 =>
 ob (rLd1 h52.get v60) fun v61 =>
 ob (rIdxA 2 1 v46 (.int .i64 1)) fun v62 =>
 ob (rLd1 h52.get v62) fun v63 =>
 ob (foldMM false v61 [v63]) fun v64 =>
 ob (bI .lss v59 v64) fun v65 =>
 jn3 (fun vs67 h68 l69 =>
 ob (rIdxA 2 1 (nt vs67 6) (.int .i64 1)) fun v70 =>
 ob (rLd1 h68.get v70) fun v71 =>
 ob (rIdxA 2 1 (nt vs67 7) (.int .i64 1)) fun v72 =>
 ob (rLd1 h68.get v72) fun v73 =>
 ob (bI .lss v71 v73) fun v74 =>
 jn3 (fun vs76 h77 l78 =>
 j32 [(nt vs76 0), (nt vs76 1), (nt vs76 2), (nt vs76 3), (nt vs76 4), (nt vs76 5), (nt vs76 6), (nt vs76 7), (nt vs76 8), (nt vs76 9), (nt vs76 10)] h77 l78) fun j75 => fork v74
 (ob (bI .add (nt vs67 4) (.int .i64 1)) fun v79 =>
 j75 [(nt vs67 0), (nt vs67 1), (nt vs67 2), (nt vs67 3), v79, (nt vs67 5), (nt vs67 8), (nt vs67 9), (nt vs67 10), (nt vs67 11), (nt vs67 12)] h68 l69)
 (ob (bI .add (nt vs67 5) (.int .i64 1)) fun v80 =>
 j75 [(nt vs67 0), (nt vs67 1), (nt vs67 2), (nt vs67 3), (nt vs67 4), v80, (nt vs67 8), (nt vs67 9), (nt vs67 10), (nt vs67 11), (nt vs67 12)] h68 l69)) fun j66 => fork v65
 (hv (call (.fn N_k107) [(nt vs29 3), v59, v64] h52) fun v81 h82 l83 =>
 j66 [(nt vs29 0), (nt vs29 1), (nt vs29 2), (nt vs29 3), (nt vs29 4), (nt vs29 5), v44, v46, (nt vs29 6), (nt vs29 7), (nt vs29 8), (nt vs29 9), (nt vs29 10)] h82 (l83 ++ (l54 ++ l31)))
 (j66 [(nt vs29 0), (nt vs29 1), (nt vs29 2), (nt vs29 3), (nt vs29 4), (nt vs29 5), v44, v46, (nt vs29 6), (nt vs29 7), (nt vs29 8), (nt vs29 9), (nt vs29 10)] h52 (l54 ++ l31))) fun j28 => fork v27
 (j28 [(nt vs16 0), (nt vs16 1), (nt vs16 2), (nt vs16 3), (nt vs16 4), (nt vs16 5), v22, v23, v24, v25, v26] h17 [])
 (some ⟨(.exit 0), [(nt vs16 0), (nt vs16 1), (nt vs16 2), (nt vs16 3), (nt vs16 4), (nt vs16 5), v22, v23, v24, v25, v26], h17, []⟩)
noncomputable def F_k168 (call : CallF) (lp : LoopF) (x0 : Value) (x1 : Value) (h : H) : Option (Value × H × List Nat) :=
 al (aBx h.n T_bitmap_Map 1 x0) h fun v0 h1 =>
 al (aBx h1.n T_bitmap_Map 1 x1) h1 fun v2 h3 =>
 al (aNew h3.n T_bitmap_Map [(.slice none 0 0)]) h3 fun v4 h5 =>
 al (aNew h5.n T_bitmap_Map [(.slice none 0 0)]) h5 fun v6 h7 =>
 jn3 (fun vs9 h10 l11 =>
 ob (rLdA h10.get 1 (nt vs9 1)) fun v12 =>
 hv (rStore h10 1 (nt vs9 0) v12) fun v13 h14 l15 =>
 fin h (rsK (rLdA h14.get 1 (nt vs9 0)) (some [])) h14 (l15 ++ l11)) fun j8 =>
 ob (lp (F_k168_L122 call lp) [v0, v2, v4, v6, (.int .i64 0), (.int .i64 0), poison, poison, poison, poison, poison] h7) fun o84 =>
 onEx o84.ex (j8 [(nt o84.vs 2), (nt o84.vs 3)] o84.h (o84.lg ++ [])) (fun i85 => bif Nat.beq i85 0 then j8 [(nt o84.vs 2), (nt o84.vs 3)] o84.h (o84.lg ++ []) else none) (fin h (rsK (rLdA o84.h.get 1 (nt o84.vs 2)) (some [])) o84.h (o84.lg ++ []))

-- 169 asterism/bitmap.Not
noncomputable def F_k169_L506 (call : CallF) (lp : LoopF) : List Value → H → Option LOut := fun vs26 h27 =>
 ob (bI .lss (nt vs26 6) (nt vs26 5)) fun v28 =>
 jn3 (fun vs30 h31 l32 =>
 jn3 (fun vs34 h35 l36 =>
 ob (bI .add (nt vs34 6) (.int .i64 1)) fun v37 =>
 some ⟨.normal, [(nt vs34 0), (nt vs34 1), (nt vs34 2), (nt vs34 3), (nt vs34 4), (nt vs34 5), v37], h35, l36⟩) fun j33 =>
 ob (rIdxS 2 (nt vs30 4) (nt vs30 6)) fun v38 =>
 ob (rLdA h31.get 2 v38) fun v39 =>
 al (aNew h31.n T_A2i64 [(.int .i64 0), (.int .i64 0)]) h31 fun v40 h41 =>
 hv (rStore h41 2 v40 v39) fun v42 h43 l44 =>
 ob (rIdxA 2 1 v40 (.int .i64 0)) fun v45 =>
 ob (rLd1 h43.get v45) fun v46 =>
 ob (bI .geq v46 (nt vs30 0)) fun v47 =>
 jn3 (fun vs49 h50 l51 =>
 ob (rIdxA 2 1 (nt vs49 4) (.int .i64 0)) fun v52 =>
 ob (rLd1 h50.get v52) fun v53 =>
 ob (bI .lss (nt vs49 3) v53) fun v54 =>
 jn3 (fun vs56 h57 l58 =>
 ob (rIdxA 2 1 (nt vs56 3) (.int .i64 1)) fun v59 =>
 ob (rLd1 h57.get v59) fun v60 =>
 j33 [(nt vs56 0), (nt vs56 1), (nt vs56 2), v60, (nt vs56 4), (nt vs56 5), (nt vs56 6)] h57 l58) fun j55 => fork v54
 (ob (rIdxA 2 1 (nt vs49 4) (.int .i64 0)) fun v61 =>
 ob (rLd1 h50.get v61) fun v62 =>
 hv (call (.fn N_k107) [(nt vs49 2), (nt vs49 3), v62] h50) fun v63 h64 l65 =>
 j55 [(nt vs49 0), (nt vs49 1), (nt vs49 2), (nt vs49 4), (nt vs49 5), (nt vs49 6), (nt vs49 7)] h64 (l65 ++ l51))
 (j55 [(nt vs49 0), (nt vs49 1), (nt vs49 2), (nt vs49 4), (nt vs49 5), (nt vs49 6), (nt vs49 7)] h50 l51)) fun j48 => fork v47
 (some ⟨(.exit 0), [(nt vs30 0), (nt vs30 1), (nt vs30 2), (nt vs30 3), (nt vs30 4), (nt vs30 5), (nt vs30 6)], h43, (l44 ++ l32)⟩)
 (j48 [(nt vs30 0), (nt vs30 1), (nt vs30 2), (nt vs30 3), v40, (nt vs30 4), (nt vs30 5), (nt vs30 6)] h43 (l44 ++ l32))) fun j29 => fork v28
 (j29 [(nt vs26 0), (nt vs26 1), (nt vs26 2), (nt vs26 3), (nt vs26 4), (nt vs26 5), (nt vs26 6)] h27 [])
 (some ⟨(.exit 0), [(nt vs26 0), (nt vs26 1), (nt vs26 2), (nt vs26 3), (nt vs26 4), (nt vs26 5), (nt vs26 6)], h27, []⟩)
noncomputable def F_k169 (call : CallF) (lp : LoopF) (x0 : Value) (x1 : Value) (h : H) : Option (Value × H × List Nat) :=
 al (aBx h.n T_bitmap_Map 1 x0) h fun v0 h1 =>
 al (aNew h1.n T_bitmap_Map [(.slice none 0 0)]) h1 fun v2 h3 =>
 ob (foldMM false x1 [(.int .i64 65536)]) fun v4 =>
 al (aNew h3.n T_bitmap_Map [(.slice none 0 0)]) h3 fun v5 h6 =>
 ob (rFld 0 v0) fun v7 =>
 ob (rLd1 h6.get v7) fun v8 =>
 ob (rLenL v8) fun v9 =>
 jn3 (fun vs11 h12 l13 =>
 ob (bI .lss (nt vs11 3) (nt vs11 0)) fun v14 =>
 jn3 (fun vs16 h17 l18 =>
 ob (rLdA h17.get 1 (nt vs16 1)) fun v19 =>
 hv (rStore h17 1 (nt vs16 0) v19) fun v20 h21 l22 =>
 fin h (rsK (rLdA h21.get 1 (nt vs16 0)) (some [])) h21 (l22 ++ l18)) fun j15 => fork v14
 (hv (call (.fn N_k107) [(nt vs11 2), (nt vs11 3), (nt vs11 0)] h12) fun v23 h24 l25 =>
 j15 [(nt vs11 1), (nt vs11 2)] h24 (l25 ++ l13))
 (j15 [(nt vs11 1), (nt vs11 2)] h12 l13)) fun j10 =>
 ob (lp (F_k169_L506 call lp) [v4, v2, v5, (.int .i64 0), v8, v9, (.int .i64 0)] h6) fun o66 =>
 onEx o66.ex (j10 [(nt o66.vs 0), (nt o66.vs 1), (nt o66.vs 2), (nt o66.vs 3)] o66.h (o66.lg ++ [])) (fun i67 => bif Nat.beq i67 0 then j10 [(nt o66.vs 0), (nt o66.vs 1), (nt o66.vs 2), (nt o66.vs 3)] o66.h (o66.lg ++ []) else none) (fin h (rsK (rLdA o66.h.get 1 (nt o66.vs 1)) (some [])) o66.h (o66.lg ++ []))

-- 170 (*asterism/column.Column).may
noncomputable def F_k170 (call : CallF) (lp : LoopF) (x0 : Value) (x1 : Value) (h : H) : Option (Value × H × List Nat) :=
 al (aBx h.n T_api_Value 3 x1) h fun v0 h1 =>
 ob (binV pgB.ty (tyD (.pointer 0)) .neq x0 (.pointer none)) fun v2 =>
 gP (gd v2 true) (rFld 0 v0) fun v3 =>
 gP (gd v2 true) (rLd1 h1.get v3) fun v4 =>
 gP (gd v2 true) (bI .eql v4 (.int .i64 0)) fun v5 =>
 gP (gd v2 true) (some v5) fun v6 =>
 gP (gd v6 false) (rFld 0 v0) fun v7 =>
 gP (gd v6 false) (rLd1 h1.get v7) fun v8 =>
 gP (gd v6 false) (some x0) fun v9 =>
 gP (gd v6 false) (rNil v9) fun v10 =>
 gP (gd v6 false) (rFld 0 v10) fun v11 =>
 gP (gd v6 false) (rLd1 h1.get v11) fun v12 =>
 gP (gd v6 false) (bI .eql v8 v12) fun v13 =>
 gP (gd v2 true) (rPick v6 (.bool true) v13) fun v14 =>
 ob (rPick v2 v14 (.bool false)) fun v15 =>
 gP (gd v15 true) (rLdA h1.get 3 v0) fun v16 =>
 hv (gV (gd v15 true) (call (.fn N_k200) [v16] h1) h1) fun v17 h18 l19 =>
 ob (rPick v15 v17 (.bool false)) fun v20 =>
 dr [0, 1, 3, 7, 15, 31, 63, 127, 255, 127, 639, 1663, 3711, 8191, 16383, 32767, 65535, 131071, 262143, 524287, 1048575] [mP h1, mP h1, mP h1, mG (gd v2 true) .pure [] h1 h1 [], mG (gd v2 true) .pure (rdP v3) h1 h1 [], mG (gd v2 true) .pure [] h1 h1 [], mG (gd v2 true) .pure [] h1 h1 [], mG (gd v6 false) .pure [] h1 h1 [], mG (gd v6 false) .pure (rdP v7) h1 h1 [], mG (gd v6 false) .pure [] h1 h1 [], mG (gd v6 false) .pure [] h1 h1 [], mG (gd v6 false) .pure [] h1 h1 [], mG (gd v6 false) .pure (rdP v11) h1 h1 [], mG (gd v6 false) .pure [] h1 h1 [], mG (gd v2 true) .pure [] h1 h1 [], mP h1, mP h1, mG (gd v15 true) .pure (rdP v0) h1 h1 [], mG (gd v15 true) .heavy (rdL [v16]) h1 h18 l19, mP h18, mP h18] fun l21 =>
 fin h (rsT v20 (some [])) h18 (l21 ++ [])

-- 171 (*asterism/dict.Dict).Take
noncomputable def F_k171 (call : CallF) (lp : LoopF) (x0 : Value) (x1 : Value) (h : H) : Option (Value × H × List Nat) :=
 hv (call (.fn N_k202) [x0] h) fun v0 h1 l2 =>
 hv (call (.fn N_k203) [v0, x1] h1) fun v3 h4 l5 =>
 ob (rExtract 0 v3) fun v6 =>
 ob (rExtract 1 v3) fun v7 =>
 ob (bI .gtr v6 (.int .i64 1)) fun v8 =>
 jn3 (fun vs10 h11 l12 =>
 fin h (rsT (nt vs10 0) (some [])) h11 l12) fun j9 => fork v8
 (ob (bI .sub v6 (.int .i64 1)) fun v13 =>
 hv (call (.fn N_k204) [v0, x1, v13] h4) fun v14 h15 l16 =>
 j9 [v7] h15 (l16 ++ (l5 ++ (l2 ++ []))))
 (jn3 (fun vs18 h19 l20 =>
 j9 [(nt vs18 0)] h19 l20) fun j17 => fork v7
 (hv (call (.fn N_k205) [v0, x1] h4) fun v21 h22 l23 =>
 j17 [v7] h22 (l23 ++ (l5 ++ (l2 ++ []))))
 (j17 [v7] h4 (l5 ++ (l2 ++ []))))

-- 172 (*asterism/column.Column).count
noncomputable def F_k172 (call : CallF) (lp : LoopF) (x0 : Value) (x1 : Value) (h : H) : Option (Value × H × List Nat) :=
 al (aBx h.n T_api_Value 3 x1) h fun v0 h1 =>
 ob (rFld 0 v0) fun v2 =>
 ob (rLd1 h1.get v2) fun v3 =>
 jn3 (fun vs5 h6 l7 =>
 fin h (some []) h6 l7) fun j4 =>
 ob (bI .eql v3 (.int .i64 0)) fun v8 =>
 jn3 (fun vs10 h11 l12 =>
 j4 [] h11 l12) fun j9 => fork v8
 (ob (rNil x0) fun v13 =>
 ob (rFld 3 v13) fun v14 =>
 ob (rLd1 h1.get v14) fun v15 =>
 ob (bI .add v15 (.int .i64 1)) fun v16 =>
 ob (rNil x0) fun v17 =>
 ob (rFld 3 v17) fun v18 =>
 hv (rStore h1 1 v18 v16) fun v19 h20 l21 =>
 j9 [] h20 (l21 ++ []))
 (ob (bI .eql v3 (.int .i64 2)) fun v22 =>
 jn3 (fun vs24 h25 l26 =>
 j9 [] h25 l26) fun j23 => fork v22
 (ob (rNil x0) fun v27 =>
 ob (rFld 2 v27) fun v28 =>
 ob (rFld 2 v0) fun v29 =>
 ob (rLd1 h1.get v29) fun v30 =>
 hv (call (.fn N_k206) [v28, v30] h1) fun v31 h32 l33 =>
 dr [0, 1, 3, 0, 8, 31] [mP h1, mP h1, mP h1, mP h1, mR h1 (rdP v29), mH h1 (rdL [v28, v30]) l33 h32] fun l34 =>
 j23 [] h32 (l34 ++ []))
 (j23 [] h1 []))

-- 173 slices.IndexFunc[[][2]int,[2]int]
noncomputable def F_k173_L58 (call : CallF) (lp : LoopF) : List Value → H → Option LOut := fun vs5 h6 =>
 ob (bI .lss (nt vs5 4) (nt vs5 3)) fun v7 =>
 jn3 (fun vs9 h10 l11 =>
 jn3 (fun vs13 h14 l15 =>
 ob (bI .add (nt vs13 4) (.int .i64 1)) fun v16 =>
 some ⟨.normal, [(nt vs13 0), (nt vs13 1), (nt vs13 2), (nt vs13 3), v16], h14, l15⟩) fun j12 =>
 ob (rIdxS 2 (nt vs9 0) (nt vs9 4)) fun v17 =>
 ob (rLdA h10.get 2 v17) fun v18 =>
 hv (callV call h10 (nt vs9 1) [v18]) fun v19 h20 l21 =>
 jn3 (fun vs23 h24 l25 =>
 j12 [(nt vs23 0), (nt vs23 1), (nt vs23 2), (nt vs23 3), (nt vs23 4)] h24 l25) fun j22 => fork v19
 (some ⟨.ret, [(nt vs9 0), (nt vs9 1), (nt vs9 4), (nt vs9 3), (nt vs9 4)], h20, (l21 ++ l11)⟩)
 (j22 [(nt vs9 0), (nt vs9 1), (nt vs9 2), (nt vs9 3), (nt vs9 4)] h20 (l21 ++ l11))) fun j8 => fork v7
 (j8 [(nt vs5 0), (nt vs5 1), (nt vs5 2), (nt vs5 3), (nt vs5 4)] h6 [])
 (some ⟨(.exit 0), [(nt vs5 0), (nt vs5 1), (nt vs5 2), (nt vs5 3), (nt vs5 4)], h6, []⟩)
noncomputable def F_k173 (call : CallF) (lp : LoopF) (x0 : Value) (x1 : Value) (h : H) : Option (Value × H × List Nat) :=
 ob (rLenL x0) fun v0 =>
 jn3 (fun vs2 h3 l4 =>
 fin h (rsT (.int .i64 (-1)) (some [])) h3 l4) fun j1 =>
 ob (lp (F_k173_L58 call lp) [x0, x1, (.int .i64 0), v0, (.int .i64 0)] h) fun o26 =>
 onEx o26.ex (j1 [] o26.h (o26.lg ++ [])) (fun i27 => bif Nat.beq i27 0 then j1 [] o26.h (o26.lg ++ []) else none) (fin h (rsT (nt o26.vs 2) (some [])) o26.h (o26.lg ++ []))

-- 174 slices.Grow[[][2]int,[2]int]
noncomputable def F_k174 (call : CallF) (lp : LoopF) (x0 : Value) (x1 : Value) (h : H) : Option (Value × H × List Nat) :=
 ob (bI .lss x1 (.int .i64 0)) fun v0 =>
 jn3 (fun vs2 h3 l4 =>
 ob (rCapL (nt vs2 0)) fun v5 =>
 ob (rLenL (nt vs2 0)) fun v6 =>
 ob (bI .sub v5 v6) fun v7 =>
 ob (bI .sub (nt vs2 1) v7) fun v8 =>
 ob (bI .gtr v8 (.int .i64 0)) fun v9 =>
 jn3 (fun vs11 h12 l13 =>
 fin h (rsT (nt vs11 0) (some [])) h12 l13) fun j10 => fork v9
 (ob (rCapL (nt vs2 0)) fun v14 =>
 ob (rSl h3.get T_A2i64 2 (nt vs2 0) none (some v14) none) fun v15 =>
 hv (rAppZ h3 T_A2i64 2 16 [(.int .i64 0), (.int .i64 0)] v15 v8) fun v16 h17 l18 =>
 ob (rLenL (nt vs2 0)) fun v19 =>
 ob (rSl h17.get T_A2i64 2 v16 none (some v19) none) fun v20 =>
 j10 [v20] h17 (l18 ++ l4))
 (j10 [(nt vs2 0)] h3 l4)) fun j1 => fork v0
 (hv (none) fun v21 h22 l23 =>
 hv (none) fun v24 h25 l26 =>
 j1 [x0, x1] h25 (l26 ++ (l23 ++ [])))
 (j1 [x0, x1] h [])

-- 175 slices.pdqsortCmpFunc[[2]int]
noncomputable def F_k175_L30 (call : CallF) (lp : LoopF) : List Value → H → Option LOut := fun vs4 h5 =>
 jn3 (fun vs7 h8 l9 =>
 some ⟨.normal, [(nt vs7 0), (nt vs7 1), (nt vs7 2), (nt vs7 3), (nt vs7 4), (nt vs7 5), (nt vs7 6), (nt vs7 7), (nt vs7 8), (nt vs7 9), (nt vs7 10), (nt vs7 11), (nt vs7 12), (nt vs7 13), (nt vs7 14), (nt vs7 15), (nt vs7 16), (nt vs7 17), (nt vs7 18), (nt vs7 19), (nt vs7 20), (nt vs7 21), (nt vs7 22)], h8, l9⟩) fun j6 =>
 ob (bI .sub (nt vs4 2) (nt vs4 1)) fun v10 =>
 ob (bI .leq v10 (.int .i64 12)) fun v11 =>
 jn3 (fun vs13 h14 l15 =>
 ob (bI .eql (nt vs13 3) (.int .i64 0)) fun v16 =>
 jn3 (fun vs18 h19 l20 =>
 ob (unV .not (nt vs18 5)) fun v21 =>
 jn3 (fun vs23 h24 l25 =>
 hv (call (.fn N_k210) [(nt vs23 0), (nt vs23 1), (nt vs23 2), (nt vs23 4)] h24) fun v26 h27 l28 =>
 ob (rExtract 0 v26) fun v29 =>
 ob (rExtract 1 v26) fun v30 =>
 ob (bI .eql v30 (.int .i64 2)) fun v31 =>
 jn3 (fun vs33 h34 l35 =>
 gP (gd (nt vs33 5) true) (some (nt vs33 6)) fun v36 =>
 ob (rPick (nt vs33 5) v36 (.bool false)) fun v37 =>
 gP (gd v37 true) (some (nt vs33 9)) fun v38 =>
 gP (gd v37 true) (bI .eql v38 (.int .i64 1)) fun v39 =>
 ob (rPick v37 v39 (.bool false)) fun v40 =>
 jn3 (fun vs42 h43 l44 =>
 ob (bI .gtr (nt vs42 1) (.int .i64 0)) fun v45 =>
 gP (gd v45 true) (some (nt vs42 4)) fun v46 =>
 gP (gd v45 true) (some (nt vs42 0)) fun v47 =>
 gP (gd v45 true) (some (nt vs42 1)) fun v48 =>
 gP (gd v45 true) (bI .sub v48 (.int .i64 1)) fun v49 =>
 gP (gd v45 true) (rIdxS 2 v47 v49) fun v50 =>
 gP (gd v45 true) (rLdA h43.get 2 v50) fun v51 =>
 gP (gd v45 true) (some (nt vs42 0)) fun v52 =>
 gP (gd v45 true) (some (nt vs42 8)) fun v53 =>
 gP (gd v45 true) (rIdxS 2 v52 v53) fun v54 =>
 gP (gd v45 true) (rLdA h43.get 2 v54) fun v55 =>
 hv (gV (gd v45 true) (callV call h43 v46 [v51, v55]) h43) fun v56 h57 l58 =>
 gP (gd v45 true) (bI .lss v56 (.int .i64 0)) fun v59 =>
 gP (gd v45 true) (unV .not v59) fun v60 =>
 ob (rPick v45 v60 (.bool false)) fun v61 =>
 dr [0, 1, 3, 7, 7, 7, 39, 119, 247, 7, 7, 1543, 3591, 8191, 16383, 32767, 65535] [mP h43, mP h43, mP h43, mG (gd v45 true) .pure [] h43 h43 [], mG (gd v45 true) .pure [] h43 h43 [], mG (gd v45 true) .pure [] h43 h43 [], mG (gd v45 true) .pure [] h43 h43 [], mG (gd v45 true) .pure [] h43 h43 [], mG (gd v45 true) .pure (rdP v50) h43 h43 [], mG (gd v45 true) .pure [] h43 h43 [], mG (gd v45 true) .pure [] h43 h43 [], mG (gd v45 true) .pure [] h43 h43 [], mG (gd v45 true) .pure (rdP v54) h43 h43 [], mG (gd v45 true) .heavy (rdL [v51, v55]) h43 h57 l58, mG (gd v45 true) .pure [] h57 h57 [], mG (gd v45 true) .pure [] h57 h57 [], mP h57] fun l62 =>
 jn3 (fun vs64 h65 l66 =>
 hv (call (.fn N_k214) [(nt vs64 0), (nt vs64 1), (nt vs64 2), (nt vs64 6), (nt vs64 4)] h65) fun v67 h68 l69 =>
 ob (rExtract 0 v67) fun v70 =>
 ob (rExtract 1 v67) fun v71 =>
 ob (bI .sub v70 (nt vs64 1)) fun v72 =>
 ob (bI .sub (nt vs64 2) v70) fun v73 =>
 ob (bI .quo (nt vs64 5) (.int .i64 8)) fun v74 =>
 ob (bI .lss v72 v73) fun v75 =>
 jn3 (fun vs77 h78 l79 =>
 j6 [(nt vs77 0), (nt vs77 1), (nt vs77 2), (nt vs77 3), (nt vs77 4), (nt vs77 5), (nt vs77 6), (nt vs77 7), (nt vs77 8), (nt vs77 9), (nt vs77 10), (nt vs77 11), (nt vs77 12), (nt vs77 13), (nt vs77 14), (nt vs77 15), (nt vs77 16), (nt vs77 17), (nt vs77 18), (nt vs77 19), (nt vs77 20), (nt vs77 21), (nt vs77 22)] h78 l79) fun j76 => fork v75
 (ob (bI .geq v72 v74) fun v80 =>
 hv (call (.fn N_k175) [(nt vs64 0), (nt vs64 1), v70, (nt vs64 3), (nt vs64 4)] h68) fun v81 h82 l83 =>
 ob (bI .add v70 (.int .i64 1)) fun v84 =>
 j76 [(nt vs64 0), v84, (nt vs64 2), (nt vs64 3), (nt vs64 4), v80, v71, (nt vs64 7), (nt vs64 8), (nt vs64 9), (nt vs64 10), (nt vs64 11), (nt vs64 12), (nt vs64 13), (nt vs64 14), (nt vs64 15), (nt vs64 16), (nt vs64 17), (nt vs64 18), (nt vs64 19), (nt vs64 20), (nt vs64 21), (nt vs64 22)] h82 (l83 ++ (l69 ++ l66)))
 (ob (bI .geq v73 v74) fun v85 =>
 ob (bI .add v70 (.int .i64 1)) fun v86 =>
 hv (call (.fn N_k175) [(nt vs64 0), v86, (nt vs64 2), (nt vs64 3), (nt vs64 4)] h68) fun v87 h88 l89 =>
 j76 [(nt vs64 0), (nt vs64 1), v70, (nt vs64 3), (nt vs64 4), v85, v71, (nt vs64 7), (nt vs64 8), (nt vs64 9), (nt vs64 10), (nt vs64 11), (nt vs64 12), (nt vs64 13), (nt vs64 14), (nt vs64 15), (nt vs64 16), (nt vs64 17), (nt vs64 18), (nt vs64 19), (nt vs64 20), (nt vs64 21), (nt vs64 22)] h88 (l89 ++ (l69 ++ l66)))) fun j63 => fork v61
 (hv (call (.fn N_k213) [(nt vs42 0), (nt vs42 1), (nt vs42 2), (nt vs42 8), (nt vs42 4)] h57) fun v90 h91 l92 =>
 j6 [(nt vs42 0), v90, (nt vs42 2), (nt vs42 3), (nt vs42 4), (nt vs42 5), (nt vs42 6), (nt vs42 9), (nt vs42 10), (nt vs42 11), v46, v47, v48, v49, v50, v51, v52, v53, v54, v55, v56, v59, v60] h91 (l92 ++ (l62 ++ l44)))
 (j63 [(nt vs42 0), (nt vs42 1), (nt vs42 2), (nt vs42 3), (nt vs42 4), (nt vs42 7), (nt vs42 8), (nt vs42 9), (nt vs42 10), (nt vs42 11), v46, v47, v48, v49, v50, v51, v52, v53, v54, v55, v56, v59, v60] h57 (l62 ++ l44))) fun j41 => fork v40
 (hv (call (.fn N_k212) [(nt vs33 0), (nt vs33 1), (nt vs33 2), (nt vs33 4)] h34) fun v93 h94 l95 =>
 jn3 (fun vs97 h98 l99 =>
 j41 [(nt vs97 0), (nt vs97 1), (nt vs97 2), (nt vs97 3), (nt vs97 4), (nt vs97 5), (nt vs97 6), (nt vs97 7), (nt vs97 8), (nt vs97 9), (nt vs97 10), (nt vs97 11), (nt vs97 12), (nt vs97 13), (nt vs97 14), (nt vs97 15), (nt vs97 16), (nt vs97 17), (nt vs97 18), (nt vs97 19), (nt vs97 20), (nt vs97 21), (nt vs97 22), (nt vs97 23), (nt vs97 24)] h98 l99) fun j96 => fork v93
 (some ⟨.ret, [(nt vs33 0), (nt vs33 1), (nt vs33 2), (nt vs33 3), (nt vs33 4), (nt vs33 5), (nt vs33 6), v36, v38, v39, (nt vs33 13), (nt vs33 14), (nt vs33 15), (nt vs33 16), (nt vs33 17), (nt vs33 18), (nt vs33 19), (nt vs33 20), (nt vs33 21), (nt vs33 22), (nt vs33 23), (nt vs33 24), (nt vs33 25)], h94, (l95 ++ l35)⟩)
 (j96 [(nt vs33 0), (nt vs33 1), (nt vs33 2), (nt vs33 3), (nt vs33 4), (nt vs33 5), (nt vs33 6), (nt vs33 7), (nt vs33 8), v36, v38, v39, (nt vs33 13), (nt vs33 14), (nt vs33 15), (nt vs33 16), (nt vs33 17), (nt vs33 18), (nt vs33 19), (nt vs33 20), (nt vs33 21), (nt vs33 22), (nt vs33 23), (nt vs33 24), (nt vs33 25)] h94 (l95 ++ l35)))
 (j41 [(nt vs33 0), (nt vs33 1), (nt vs33 2), (nt vs33 3), (nt vs33 4), (nt vs33 5), (nt vs33 6), (nt vs33 7), (nt vs33 8), v36, v38, v39, (nt vs33 13), (nt vs33 14), (nt vs33 15), (nt vs33 16), (nt vs33 17), (nt vs33 18), (nt vs33 19), (nt vs33 20), (nt vs33 21), (nt vs33 22), (nt vs33 23), (nt vs33 24), (nt vs33 25)] h34 l35)) fun j32 => fork v31
 (hv (call (.fn N_k211) [(nt vs23 0), (nt vs23 1), (nt vs23 2), (nt vs23 4)] h27) fun v100 h101 l102 =>
 ob (bI .sub (nt vs23 2) (.int .i64 1)) fun v103 =>
 ob (bI .sub v29 (nt vs23 1)) fun v104 =>
 ob (bI .sub v103 v104) fun v105 =>
 j32 [(nt vs23 0), (nt vs23 1), (nt vs23 2), (nt vs23 3), (nt vs23 4), (nt vs23 5), (nt vs23 6), (nt vs23 7), v105, (.int .i64 1), (nt vs23 8), (nt vs23 9), (nt vs23 10), (nt vs23 11), (nt vs23 12), (nt vs23 13), (nt vs23 14), (nt vs23 15), (nt vs23 16), (nt vs23 17), (nt vs23 18), (nt vs23 19), (nt vs23 20), (nt vs23 21), (nt vs23 22), (nt vs23 23)] h101 (l102 ++ (l28 ++ l25)))
 (j32 [(nt vs23 0), (nt vs23 1), (nt vs23 2), (nt vs23 3), (nt vs23 4), (nt vs23 5), (nt vs23 6), (nt vs23 7), v29, v30, (nt vs23 8), (nt vs23 9), (nt vs23 10), (nt vs23 11), (nt vs23 12), (nt vs23 13), (nt vs23 14), (nt vs23 15), (nt vs23 16), (nt vs23 17), (nt vs23 18), (nt vs23 19), (nt vs23 20), (nt vs23 21), (nt vs23 22), (nt vs23 23)] h27 (l28 ++ l25))) fun j22 => fork v21
 (hv (call (.fn N_k209) [(nt vs18 0), (nt vs18 1), (nt vs18 2), (nt vs18 4)] h19) fun v106 h107 l108 =>
 ob (bI .sub (nt vs18 3) (.int .i64 1)) fun v109 =>
 j22 [(nt vs18 0), (nt vs18 1), (nt vs18 2), v109, (nt vs18 4), (nt vs18 5), (nt vs18 6), (nt vs18 7), (nt vs18 8), (nt vs18 9), (nt vs18 10), (nt vs18 11), (nt vs18 12), (nt vs18 13), (nt vs18 14), (nt vs18 15), (nt vs18 16), (nt vs18 17), (nt vs18 18), (nt vs18 19), (nt vs18 20), (nt vs18 21), (nt vs18 22), (nt vs18 23)] h107 (l108 ++ l20))
 (j22 [(nt vs18 0), (nt vs18 1), (nt vs18 2), (nt vs18 3), (nt vs18 4), (nt vs18 5), (nt vs18 6), (nt vs18 7), (nt vs18 8), (nt vs18 9), (nt vs18 10), (nt vs18 11), (nt vs18 12), (nt vs18 13), (nt vs18 14), (nt vs18 15), (nt vs18 16), (nt vs18 17), (nt vs18 18), (nt vs18 19), (nt vs18 20), (nt vs18 21), (nt vs18 22), (nt vs18 23)] h19 l20)) fun j17 => fork v16
 (hv (call (.fn N_k208) [(nt vs13 0), (nt vs13 1), (nt vs13 2), (nt vs13 4)] h14) fun v110 h111 l112 =>
 some ⟨.ret, [(nt vs13 0), (nt vs13 1), (nt vs13 2), (nt vs13 3), (nt vs13 4), (nt vs13 5), (nt vs13 6), (nt vs13 8), (nt vs13 9), (nt vs13 10), (nt vs13 11), (nt vs13 12), (nt vs13 13), (nt vs13 14), (nt vs13 15), (nt vs13 16), (nt vs13 17), (nt vs13 18), (nt vs13 19), (nt vs13 20), (nt vs13 21), (nt vs13 22), (nt vs13 23)], h111, (l112 ++ l15)⟩)
 (j17 [(nt vs13 0), (nt vs13 1), (nt vs13 2), (nt vs13 3), (nt vs13 4), (nt vs13 5), (nt vs13 6), (nt vs13 7), (nt vs13 8), (nt vs13 9), (nt vs13 10), (nt vs13 11), (nt vs13 12), (nt vs13 13), (nt vs13 14), (nt vs13 15), (nt vs13 16), (nt vs13 17), (nt vs13 18), (nt vs13 19), (nt vs13 20), (nt vs13 21), (nt vs13 22), (nt vs13 23)] h14 l15)) fun j12 => fork v11
 (hv (call (.fn N_k207) [(nt vs4 0), (nt vs4 1), (nt vs4 2), (nt vs4 4)] h5) fun v113 h114 l115 =>
 some ⟨.ret, [(nt vs4 0), (nt vs4 1), (nt vs4 2), (nt vs4 3), (nt vs4 4), (nt vs4 5), (nt vs4 6), (nt vs4 7), (nt vs4 8), (nt vs4 9), (nt vs4 10), (nt vs4 11), (nt vs4 12), (nt vs4 13), (nt vs4 14), (nt vs4 15), (nt vs4 16), (nt vs4 17), (nt vs4 18), (nt vs4 19), (nt vs4 20), (nt vs4 21), (nt vs4 22)], h114, (l115 ++ [])⟩)
 (j12 [(nt vs4 0), (nt vs4 1), (nt vs4 2), (nt vs4 3), (nt vs4 4), (nt vs4 5), (nt vs4 6), v10, (nt vs4 7), (nt vs4 8), (nt vs4 9), (nt vs4 10), (nt vs4 11), (nt vs4 12), (nt vs4 13), (nt vs4 14), (nt vs4 15), (nt vs4 16), (nt vs4 17), (nt vs4 18), (nt vs4 19), (nt vs4 20), (nt vs4 21), (nt vs4 22)] h5 [])
noncomputable def F_k175 (call : CallF) (lp : LoopF) (x0 : Value) (x1 : Value) (x2 : Value) (x3 : Value) (x4 : Value) (h : H) : Option (Value × H × List Nat) :=
 jn3 (fun vs1 h2 l3 =>
 fin h (some []) h2 l3) fun j0 =>
 ob (lp (F_k175_L30 call lp) [x0, x1, x2, x3, x4, (.bool true), (.bool true), poison, poison, poison, poison, poison, poison, poison, poison, poison, poison, poison, poison, poison, poison, poison, poison] h) fun o116 =>
 onEx o116.ex (j0 [] o116.h (o116.lg ++ [])) (fun i117 => bif Nat.beq i117 0 then j0 [] o116.h (o116.lg ++ []) else none) (fin h (some []) o116.h (o116.lg ++ []))

-- 176 asterism/asterismlaw12.begun
noncomputable def F_k176 (call : CallF) (lp : LoopF) (h : H) : Option (Value × H × List Nat) :=
 hv (call (.fn N_k17) [] h) fun v0 h1 l2 =>
 ob (rExtract 0 v0) fun v3 =>
 ob (rExtract 1 v0) fun v4 =>
 ob (binV pgB.ty (tyD (.pointer 0)) .eql v3 (.pointer none)) fun v5 =>
 gP (gd v5 false) (some v3) fun v6 =>
 hv (gV (gd v5 false) (call (.fn N_k20) [v6, (.string ⟨#[108, 97, 110, 100]⟩)] h1) h1) fun v7 h8 l9 =>
 gP (gd v5 false) (binV pgB.ty (tyD (.pointer 0)) .eql v7 (.pointer none)) fun v10 =>
 ob (rPick v5 (.bool true) v10) fun v11 =>
 gP (gd v11 false) (some v3) fun v12 =>
 hv (gV (gd v11 false) (call (.fn N_k20) [v12, (.string ⟨#[115, 104, 111, 112]⟩)] h8) h8) fun v13 h14 l15 =>
 gP (gd v11 false) (binV pgB.ty (tyD (.pointer 0)) .eql v13 (.pointer none)) fun v16 =>
 ob (rPick v11 (.bool true) v16) fun v17 =>
 gP (gd v17 false) (some v3) fun v18 =>
 hv (gV (gd v17 false) (call (.fn N_k20) [v18, (.string ⟨#[120]⟩)] h14) h14) fun v19 h20 l21 =>
 gP (gd v17 false) (binV pgB.ty (tyD (.pointer 0)) .neq v19 (.pointer none)) fun v22 =>
 ob (rPick v17 (.bool true) v22) fun v23 =>
 gP (gd v23 false) (some v3) fun v24 =>
 hv (gV (gd v23 false) (call (.fn N_k34) [v24] h20) h20) fun v25 h26 l27 =>
 gP (gd v23 false) (binV pgB.ty (tyD (.pointer 0)) .eql v25 (.pointer none)) fun v28 =>
 ob (rPick v23 (.bool true) v28) fun v29 =>
 jn3 (fun vs31 h32 l33 =>
 ob (oBuild pgB T_api_Value [(0, (.int .i64 1)), (1, (.int .i64 1))]) fun v34 =>
 al (aNew h32.n T_api_Value [(.int .i64 0), (.int .i64 0), (.string ⟨#[]⟩)]) h32 fun v35 h36 =>
 hv (rStore h36 3 v35 v34) fun v37 h38 l39 =>
 hv (call (.fn N_k20) [(nt vs31 0), (.string ⟨#[108, 97, 110, 100]⟩)] h38) fun v40 h41 l42 =>
 ob (rLdA h41.get 3 v35) fun v43 =>
 ob (oBuild pgB T_api_Value [(0, (.int .i64 2)), (2, (.string ⟨#[104, 101, 114, 101]⟩))]) fun v44 =>
 al (aBuildS pgB h41.n T_Lapi_Value 2 [(0, v43), (1, v44)]) h41 fun v45 h46 =>
 hv (call (.fn N_k109) [v40, v45] h46) fun v47 h48 l49 =>
 dr [0, 1, 0, 0, 12, 31] [mP h38, mH h38 (rdL [(nt vs31 0), (.string ⟨#[108, 97, 110, 100]⟩)]) l42 h41, mR h41 (rdP v35), mP h41, mA h41 [], mH h46 (rdL [v40, v45]) l49 h48] fun l50 =>
 hv (call (.fn N_k20) [(nt vs31 0), (.string ⟨#[115, 104, 111, 112]⟩)] h48) fun v51 h52 l53 =>
 ob (rLdA h52.get 3 v35) fun v54 =>
 ob (oBuild pgB T_api_Value [(0, (.int .i64 2)), (2, (.string ⟨#[120]⟩))]) fun v55 =>
 ob (oBuild pgB T_api_Value []) fun v56 =>
 ob (rLdA h52.get 3 v35) fun v57 =>
 al (aBuildS pgB h52.n T_Lapi_Value 4 [(0, v54), (1, v55), (2, v56), (3, v57)]) h52 fun v58 h59 =>
 hv (call (.fn N_k109) [v51, v58] h59) fun v60 h61 l62 =>
 ob (rExtract 0 v60) fun v63 =>
 ob (rExtract 1 v60) fun v64 =>
 dr [0, 1, 0, 0, 0, 0, 60, 127, 255, 511, 511, 1023, 4095] [mP h48, mH h48 (rdL [(nt vs31 0), (.string ⟨#[115, 104, 111, 112]⟩)]) l53 h52, mR h52 (rdP v35), mP h52, mP h52, mR h52 (rdP v35), mA h52 [], mH h59 (rdL [v51, v58]) l62 h61, mP h61, mP h61, mP h61, mP h61, mP h61] fun l65 =>
 al (aBuildS pgB h61.n T_api_Path 2 [(0, (.string ⟨#[108, 97, 110, 100]⟩)), (1, (.string ⟨#[110, 97, 109, 101]⟩))]) h61 fun v66 h67 =>
 hv (call (.fn N_k52) [(nt vs31 0), (.string ⟨#[115, 104, 111, 112]⟩), v63, v66] h67) fun v68 h69 l70 =>
 ob (rExtract 0 v68) fun v71 =>
 ob (rExtract 1 v68) fun v72 =>
 al (aNew h69.n T_api_Value [(.int .i64 0), (.int .i64 0), (.string ⟨#[]⟩)]) h69 fun v73 h74 =>
 hv (rStore h74 3 v73 v71) fun v75 h76 l77 =>
 al (aBuildS pgB h76.n T_api_Path 1 [(0, (.string ⟨#[122, 111, 110, 101]⟩))]) h76 fun v78 h79 =>
 hv (call (.fn N_k52) [(nt vs31 0), (.string ⟨#[115, 104, 111, 112]⟩), v63, v78] h79) fun v80 h81 l82 =>
 ob (rExtract 0 v80) fun v83 =>
 ob (rExtract 1 v80) fun v84 =>
 al (aNew h81.n T_api_Value [(.int .i64 0), (.int .i64 0), (.string ⟨#[]⟩)]) h81 fun v85 h86 =>
 hv (rStore h86 3 v85 v83) fun v87 h88 l89 =>
 al (aBuildS pgB h88.n T_api_Path 1 [(0, (.string ⟨#[122, 111, 110, 101]⟩))]) h88 fun v90 h91 =>
 hv (call (.fn N_k52) [(nt vs31 0), (.string ⟨#[115, 104, 111, 112]⟩), (.int .i64 9), v90] h91) fun v92 h93 l94 =>
 ob (rExtract 0 v92) fun v95 =>
 ob (rExtract 1 v92) fun v96 =>
 al (aNew h93.n T_api_Value [(.int .i64 0), (.int .i64 0), (.string ⟨#[]⟩)]) h93 fun v97 h98 =>
 hv (rStore h98 3 v97 v95) fun v99 h100 l101 =>
 ob (rLdA h100.get 3 v35) fun v102 =>
 hv (call (.fn N_k78) [(nt vs31 0), (.string ⟨#[108, 97, 110, 100]⟩), v102] h100) fun v103 h104 l105 =>
 ob (rExtract 0 v103) fun v106 =>
 ob (rExtract 1 v103) fun v107 =>
 hv (call (.fn N_k215) [] h104) fun v108 h109 l110 =>
 gP (gd v108 true) (some v64) fun v111 =>
 gP (gd v108 true) (bI .eql v111 (.int .i64 0)) fun v112 =>
 ob (rPick v108 v112 (.bool false)) fun v113 =>
 gP (gd v113 true) (some v72) fun v114 =>
 ob (rPick v113 v114 (.bool false)) fun v115 =>
 gP (gd v115 true) (rFld 2 v73) fun v116 =>
 gP (gd v115 true) (rLd1 h109.get v116) fun v117 =>
 gP (gd v115 true) (binV pgB.ty (tyD .string) .eql v117 (.string ⟨#[104, 101, 114, 101]⟩)) fun v118 =>
 ob (rPick v115 v118 (.bool false)) fun v119 =>
 gP (gd v119 true) (some v84) fun v120 =>
 ob (rPick v119 v120 (.bool false)) fun v121 =>
 gP (gd v121 true) (rFld 0 v85) fun v122 =>
 gP (gd v121 true) (rLd1 h109.get v122) fun v123 =>
 gP (gd v121 true) (bI .eql v123 (.int .i64 0)) fun v124 =>
 ob (rPick v121 v124 (.bool false)) fun v125 =>
 gP (gd v125 true) (some v96) fun v126 =>
 gP (gd v125 true) (unV .not v126) fun v127 =>
 ob (rPick v125 v127 (.bool false)) fun v128 =>
 gP (gd v128 true) (some v106) fun v129 =>
 gP (gd v128 true) (bI .eql v129 (.int .i64 0)) fun v130 =>
 ob (rPick v128 v130 (.bool false)) fun v131 =>
 gP (gd v131 true) (some v107) fun v132 =>
 ob (rPick v131 v132 (.bool false)) fun v133 =>
 gP (gd v133 true) (some (nt vs31 0)) fun v134 =>
 hv (gV (gd v133 true) (call (.fn N_k41) [v134] h109) h109) fun v135 h136 l137 =>
 gP (gd v133 true) (binV pgB.ty (tyD (.pointer 0)) .neq v135 (.pointer none)) fun v138 =>
 ob (rPick v133 v138 (.bool false)) fun v139 =>
 fin h (rsT v139 (some [])) h136 (l137 ++ (l110 ++ (l105 ++ (l101 ++ (l94 ++ (l89 ++ (l82 ++ (l77 ++ (l70 ++ (l65 ++ (l50 ++ (l39 ++ l33))))))))))))) fun j30 => fork v29
 (fin h (rsT (.bool false) (some [])) h26 (l27 ++ (l21 ++ (l15 ++ (l9 ++ (l2 ++ []))))))
 (j30 [v3, poison, poison, poison, poison, poison, poison, poison, poison, poison, poison, poison, poison, poison, poison, poison, poison, poison, poison] h26 (l27 ++ (l21 ++ (l15 ++ (l9 ++ (l2 ++ []))))))

-- 177 slices.IndexFunc[[]asterism/api.Col,asterism/api.Col]
noncomputable def F_k177_L58 (call : CallF) (lp : LoopF) : List Value → H → Option LOut := fun vs5 h6 =>
 ob (bI .lss (nt vs5 4) (nt vs5 3)) fun v7 =>
 jn3 (fun vs9 h10 l11 =>
 jn3 (fun vs13 h14 l15 =>
 ob (bI .add (nt vs13 4) (.int .i64 1)) fun v16 =>
 some ⟨.normal, [(nt vs13 0), (nt vs13 1), (nt vs13 2), (nt vs13 3), v16], h14, l15⟩) fun j12 =>
 ob (rIdxS 4 (nt vs9 0) (nt vs9 4)) fun v17 =>
 ob (rLdA h10.get 4 v17) fun v18 =>
 hv (callV call h10 (nt vs9 1) [v18]) fun v19 h20 l21 =>
 jn3 (fun vs23 h24 l25 =>
 j12 [(nt vs23 0), (nt vs23 1), (nt vs23 2), (nt vs23 3), (nt vs23 4)] h24 l25) fun j22 => fork v19
 (some ⟨.ret, [(nt vs9 0), (nt vs9 1), (nt vs9 4), (nt vs9 3), (nt vs9 4)], h20, (l21 ++ l11)⟩)
 (j22 [(nt vs9 0), (nt vs9 1), (nt vs9 2), (nt vs9 3), (nt vs9 4)] h20 (l21 ++ l11))) fun j8 => fork v7
 (j8 [(nt vs5 0), (nt vs5 1), (nt vs5 2), (nt vs5 3), (nt vs5 4)] h6 [])
 (some ⟨(.exit 0), [(nt vs5 0), (nt vs5 1), (nt vs5 2), (nt vs5 3), (nt vs5 4)], h6, []⟩)
noncomputable def F_k177 (call : CallF) (lp : LoopF) (x0 : Value) (x1 : Value) (h : H) : Option (Value × H × List Nat) :=
 ob (rLenL x0) fun v0 =>
 jn3 (fun vs2 h3 l4 =>
 fin h (rsT (.int .i64 (-1)) (some [])) h3 l4) fun j1 =>
 ob (lp (F_k177_L58 call lp) [x0, x1, (.int .i64 0), v0, (.int .i64 0)] h) fun o26 =>
 onEx o26.ex (j1 [] o26.h (o26.lg ++ [])) (fun i27 => bif Nat.beq i27 0 then j1 [] o26.h (o26.lg ++ []) else none) (fin h (rsT (nt o26.vs 2) (some [])) o26.h (o26.lg ++ []))

-- 178 (*asterism/table.Table).col$1
noncomputable def F_k178 (call : CallF) (lp : LoopF) (x0 : Value) (x1 : Value) (h : H) : Option (Value × H × List Nat) :=
 al (aBx h.n T_api_Col 4 x0) h fun v0 h1 =>
 ob (rFld 0 v0) fun v2 =>
 ob (rLd1 h1.get v2) fun v3 =>
 ob (rLd1 h1.get x1) fun v4 =>
 ob (binV pgB.ty (tyD .string) .eql v3 v4) fun v5 =>
 fin h (rsT v5 (some [])) h1 []

-- 179 (*asterism/dict.Dict).Len
noncomputable def F_k179 (call : CallF) (lp : LoopF) (x0 : Value) (h : H) : Option (Value × H × List Nat) :=
 hv (call (.fn N_k202) [x0] h) fun v0 h1 l2 =>
 hv (call (.fn N_k216) [v0] h1) fun v3 h4 l5 =>
 fin h (rsT v3 (some [])) h4 (l5 ++ (l2 ++ []))

-- 180 asterism/val.Name
noncomputable def F_k180_L122 (call : CallF) (lp : LoopF) : List Value → H → Option LOut := fun vs25 h26 =>
 ob (bI .lss (nt vs25 3) (nt vs25 2)) fun v27 =>
 jn3 (fun vs29 h30 l31 =>
 jn3 (fun vs33 h34 l35 =>
 ob (bI .add (nt vs33 3) (.int .i64 1)) fun v36 =>
 some ⟨.normal, [(nt vs33 0), (nt vs33 1), (nt vs33 2), v36, (nt vs33 4), (nt vs33 5), (nt vs33 6), (nt vs33 7), (nt vs33 8)], h34, l35⟩) fun j32 =>
 ob (rIxStr (nt vs29 0) (nt vs29 3)) fun v37 =>
 hv (call (.fn N_k219) [v37] h30) fun v38 h39 l40 =>
 ob (unV .not v38) fun v41 =>
 gP (gd v41 true) (some (nt vs29 0)) fun v42 =>
 gP (gd v41 true) (some (nt vs29 3)) fun v43 =>
 gP (gd v41 true) (rIxStr v42 v43) fun v44 =>
 hv (gV (gd v41 true) (call (.fn N_k217) [v44] h39) h39) fun v45 h46 l47 =>
 gP (gd v41 true) (unV .not v45) fun v48 =>
 ob (rPick v41 v48 (.bool false)) fun v49 =>
 jn3 (fun vs51 h52 l53 =>
 j32 [(nt vs51 0), (nt vs51 1), (nt vs51 2), (nt vs51 3), (nt vs51 4), (nt vs51 5), (nt vs51 6), (nt vs51 7), (nt vs51 8)] h52 l53) fun j50 => fork v49
 (some ⟨.ret, [(nt vs29 0), (.bool false), (nt vs29 2), (nt vs29 3), v42, v43, v44, v45, v48], h46, (l47 ++ (l40 ++ l31))⟩)
 (j50 [(nt vs29 0), (nt vs29 1), (nt vs29 2), (nt vs29 3), v42, v43, v44, v45, v48] h46 (l47 ++ (l40 ++ l31)))) fun j28 => fork v27
 (j28 [(nt vs25 0), (nt vs25 1), (nt vs25 2), (nt vs25 3), (nt vs25 4), (nt vs25 5), (nt vs25 6), (nt vs25 7), (nt vs25 8)] h26 [])
 (some ⟨(.exit 0), [(nt vs25 0), (nt vs25 1), (nt vs25 2), (nt vs25 3), (nt vs25 4), (nt vs25 5), (nt vs25 6), (nt vs25 7), (nt vs25 8)], h26, []⟩)
noncomputable def F_k180 (call : CallF) (lp : LoopF) (x0 : Value) (h : H) : Option (Value × H × List Nat) :=
 ob (binV pgB.ty (tyD .string) .eql x0 (.string ⟨#[]⟩)) fun v0 =>
 gP (gd v0 false) (some x0) fun v1 =>
 gP (gd v0 false) (rLenS v1) fun v2 =>
 gP (gd v0 false) (bI .gtr v2 (.int .i64 12)) fun v3 =>
 ob (rPick v0 (.bool true) v3) fun v4 =>
 gP (gd v4 false) (some x0) fun v5 =>
 gP (gd v4 false) (rIxStr v5 (.int .i64 0)) fun v6 =>
 hv (gV (gd v4 false) (call (.fn N_k217) [v6] h) h) fun v7 h8 l9 =>
 ob (rPick v4 (.bool true) v7) fun v10 =>
 gP (gd v10 false) (some x0) fun v11 =>
 hv (gV (gd v10 false) (call (.fn N_k218) [v11] h8) h8) fun v12 h13 l14 =>
 ob (rPick v10 (.bool true) v12) fun v15 =>
 jn3 (fun vs17 h18 l19 =>
 ob (rLenS (nt vs17 0)) fun v20 =>
 jn3 (fun vs22 h23 l24 =>
 fin h (rsT (.bool true) (some [])) h23 l24) fun j21 =>
 ob (lp (F_k180_L122 call lp) [(nt vs17 0), (nt vs17 1), v20, (.int .i64 0), (nt vs17 2), (nt vs17 3), (nt vs17 4), (nt vs17 5), (nt vs17 6)] h18) fun o54 =>
 onEx o54.ex (j21 [] o54.h (o54.lg ++ l19)) (fun i55 => bif Nat.beq i55 0 then j21 [] o54.h (o54.lg ++ l19) else none) (fin h (rsT (nt o54.vs 1) (some [])) o54.h (o54.lg ++ l19))) fun j16 => fork v15
 (fin h (rsT (.bool false) (some [])) h13 (l14 ++ (l9 ++ [])))
 (j16 [x0, (.bool false), poison, poison, poison, poison, poison] h13 (l14 ++ (l9 ++ [])))

-- 181 asterism/schema.twice
noncomputable def F_k181_L58 (call : CallF) (lp : LoopF) : List Value → H → Option LOut := fun vs5 h6 =>
 ob (bI .lss (nt vs5 4) (nt vs5 3)) fun v7 =>
 jn3 (fun vs9 h10 l11 =>
 jn3 (fun vs13 h14 l15 =>
 ob (bI .add (nt vs13 4) (.int .i64 1)) fun v16 =>
 some ⟨.normal, [(nt vs13 0), (nt vs13 1), (nt vs13 2), (nt vs13 3), v16], h14, l15⟩) fun j12 =>
 ob (rIdxS 1 (nt vs9 2) (nt vs9 4)) fun v17 =>
 ob (rLd1 h10.get v17) fun v18 =>
 ob (rSl h10.get T_string 1 (nt vs9 0) none (some (nt vs9 4)) none) fun v19 =>
 hv (call (.fn N_k220) [v19, v18] h10) fun v20 h21 l22 =>
 jn3 (fun vs24 h25 l26 =>
 j12 [(nt vs24 0), (nt vs24 1), (nt vs24 2), (nt vs24 3), (nt vs24 4)] h25 l26) fun j23 => fork v20
 (some ⟨.ret, [(nt vs9 0), (.bool true), (nt vs9 2), (nt vs9 3), (nt vs9 4)], h21, (l22 ++ l11)⟩)
 (j23 [(nt vs9 0), (nt vs9 1), (nt vs9 2), (nt vs9 3), (nt vs9 4)] h21 (l22 ++ l11))) fun j8 => fork v7
 (j8 [(nt vs5 0), (nt vs5 1), (nt vs5 2), (nt vs5 3), (nt vs5 4)] h6 [])
 (some ⟨(.exit 0), [(nt vs5 0), (nt vs5 1), (nt vs5 2), (nt vs5 3), (nt vs5 4)], h6, []⟩)
noncomputable def F_k181 (call : CallF) (lp : LoopF) (x0 : Value) (h : H) : Option (Value × H × List Nat) :=
 ob (rLenL x0) fun v0 =>
 jn3 (fun vs2 h3 l4 =>
 fin h (rsT (.bool false) (some [])) h3 l4) fun j1 =>
 ob (lp (F_k181_L58 call lp) [x0, (.bool false), x0, v0, (.int .i64 0)] h) fun o27 =>
 onEx o27.ex (j1 [] o27.h (o27.lg ++ [])) (fun i28 => bif Nat.beq i28 0 then j1 [] o27.h (o27.lg ++ []) else none) (fin h (rsT (nt o27.vs 1) (some [])) o27.h (o27.lg ++ []))

-- 182 slices.ContainsFunc[[]asterism/api.Dep,asterism/api.Dep]
noncomputable def F_k182 (call : CallF) (lp : LoopF) (x0 : Value) (x1 : Value) (h : H) : Option (Value × H × List Nat) :=
 hv (call (.fn N_k221) [x0, x1] h) fun v0 h1 l2 =>
 ob (bI .geq v0 (.int .i64 0)) fun v3 =>
 fin h (rsT v3 (some [])) h1 (l2 ++ [])

-- 183 (*asterism/schema.Schema).named$1
noncomputable def F_k183 (call : CallF) (lp : LoopF) (x0 : Value) (x1 : Value) (h : H) : Option (Value × H × List Nat) :=
 al (aBx h.n T_api_Dep 2 x0) h fun v0 h1 =>
 ob (rLdA h1.get 4 x1) fun v2 =>
 ob (rLdA h1.get 2 v0) fun v3 =>
 hv (call (.fn N_k184) [v2, v3] h1) fun v4 h5 l6 =>
 ob (unV .not v4) fun v7 =>
 fin h (rsT v7 (some [])) h5 (l6 ++ [])

-- 184 asterism/schema.dep
noncomputable def F_k184 (call : CallF) (lp : LoopF) (x0 : Value) (x1 : Value) (h : H) : Option (Value × H × List Nat) :=
 al (aBx h.n T_api_Table 4 x0) h fun v0 h1 =>
 al (aBx h1.n T_api_Dep 2 x1) h1 fun v2 h3 =>
 ob (oFunc N_k222 #[] #[v0]) fun v4 =>
 ob (rFld 0 v2) fun v5 =>
 ob (rLd1 h3.get v5) fun v6 =>
 ob (rLenL v6) fun v7 =>
 ob (bI .gtr v7 (.int .i64 0)) fun v8 =>
 gP (gd v8 true) (rFld 0 v2) fun v9 =>
 gP (gd v8 true) (rLd1 h3.get v9) fun v10 =>
 gP (gd v8 true) (rLenL v10) fun v11 =>
 gP (gd v8 true) (bI .leq v11 (.int .i64 3)) fun v12 =>
 ob (rPick v8 v12 (.bool false)) fun v13 =>
 gP (gd v13 true) (rFld 0 v2) fun v14 =>
 gP (gd v13 true) (rLd1 h3.get v14) fun v15 =>
 gP (gd v13 true) (some v4) fun v16 =>
 hv (gV (gd v13 true) (call (.fn N_k223) [v15, v16] h3) h3) fun v17 h18 l19 =>
 gP (gd v13 true) (unV .not v17) fun v20 =>
 ob (rPick v13 v20 (.bool false)) fun v21 =>
 gP (gd v21 true) (rFld 0 v2) fun v22 =>
 gP (gd v21 true) (rLd1 h18.get v22) fun v23 =>
 hv (gV (gd v21 true) (call (.fn N_k181) [v23] h18) h18) fun v24 h25 l26 =>
 gP (gd v21 true) (unV .not v24) fun v27 =>
 ob (rPick v21 v27 (.bool false)) fun v28 =>
 gP (gd v28 true) (some v4) fun v29 =>
 gP (gd v28 true) (rFld 1 v2) fun v30 =>
 gP (gd v28 true) (rLd1 h25.get v30) fun v31 =>
 hv (gV (gd v28 true) (callV call h25 v29 [v31]) h25) fun v32 h33 l34 =>
 gP (gd v28 true) (unV .not v32) fun v35 =>
 ob (rPick v28 v35 (.bool false)) fun v36 =>
 gP (gd v36 true) (rFld 0 v2) fun v37 =>
 gP (gd v36 true) (rLd1 h33.get v37) fun v38 =>
 gP (gd v36 true) (rFld 1 v2) fun v39 =>
 gP (gd v36 true) (rLd1 h33.get v39) fun v40 =>
 hv (gV (gd v36 true) (call (.fn N_k220) [v38, v40] h33) h33) fun v41 h42 l43 =>
 gP (gd v36 true) (unV .not v41) fun v44 =>
 ob (rPick v36 v44 (.bool false)) fun v45 =>
 fin h (rsT v45 (some [])) h42 (l43 ++ (l34 ++ (l26 ++ (l19 ++ []))))

-- 185 asterism/schema.col$1
noncomputable def F_k185 (call : CallF) (lp : LoopF) (x0 : Value) (x1 : Value) (h : H) : Option (Value × H × List Nat) :=
 al (aBx h.n T_api_Col 4 x0) h fun v0 h1 =>
 ob (rFld 0 v0) fun v2 =>
 ob (rLd1 h1.get v2) fun v3 =>
 ob (rLd1 h1.get x1) fun v4 =>
 ob (binV pgB.ty (tyD .string) .eql v3 v4) fun v5 =>
 fin h (rsT v5 (some [])) h1 []

-- 186 asterism/asterismref1.Name
noncomputable def F_k186_L122 (call : CallF) (lp : LoopF) : List Value → H → Option LOut := fun vs25 h26 =>
 ob (rLenS (nt vs25 0)) fun v27 =>
 ob (bI .lss (nt vs25 2) v27) fun v28 =>
 jn3 (fun vs30 h31 l32 =>
 jn3 (fun vs34 h35 l36 =>
 ob (bI .add (nt vs34 2) (.int .i64 1)) fun v37 =>
 some ⟨.normal, [(nt vs34 0), (nt vs34 1), v37, (nt vs34 3), (nt vs34 4), (nt vs34 5), (nt vs34 6), (nt vs34 7)], h35, l36⟩) fun j33 =>
 ob (rIxStr (nt vs30 0) (nt vs30 2)) fun v38 =>
 hv (call (.fn N_k226) [v38] h31) fun v39 h40 l41 =>
 ob (unV .not v39) fun v42 =>
 gP (gd v42 true) (some (nt vs30 0)) fun v43 =>
 gP (gd v42 true) (some (nt vs30 2)) fun v44 =>
 gP (gd v42 true) (rIxStr v43 v44) fun v45 =>
 hv (gV (gd v42 true) (call (.fn N_k224) [v45] h40) h40) fun v46 h47 l48 =>
 gP (gd v42 true) (unV .not v46) fun v49 =>
 ob (rPick v42 v49 (.bool false)) fun v50 =>
 jn3 (fun vs52 h53 l54 =>
 j33 [(nt vs52 0), (nt vs52 1), (nt vs52 2), (nt vs52 3), (nt vs52 4), (nt vs52 5), (nt vs52 6), (nt vs52 7)] h53 l54) fun j51 => fork v50
 (some ⟨.ret, [(nt vs30 0), (.bool false), (nt vs30 2), v43, v44, v45, v46, v49], h47, (l48 ++ (l41 ++ l32))⟩)
 (j51 [(nt vs30 0), (nt vs30 1), (nt vs30 2), v43, v44, v45, v46, v49] h47 (l48 ++ (l41 ++ l32)))) fun j29 => fork v28
 (j29 [(nt vs25 0), (nt vs25 1), (nt vs25 2), (nt vs25 3), (nt vs25 4), (nt vs25 5), (nt vs25 6), (nt vs25 7)] h26 [])
 (some ⟨(.exit 0), [(nt vs25 0), (nt vs25 1), (nt vs25 2), (nt vs25 3), (nt vs25 4), (nt vs25 5), (nt vs25 6), (nt vs25 7)], h26, []⟩)
noncomputable def F_k186 (call : CallF) (lp : LoopF) (x0 : Value) (h : H) : Option (Value × H × List Nat) :=
 ob (rLenS x0) fun v0 =>
 ob (bI .lss v0 (.int .i64 1)) fun v1 =>
 gP (gd v1 false) (some x0) fun v2 =>
 gP (gd v1 false) (rLenS v2) fun v3 =>
 gP (gd v1 false) (bI .gtr v3 (.int .i64 12)) fun v4 =>
 ob (rPick v1 (.bool true) v4) fun v5 =>
 gP (gd v5 false) (some x0) fun v6 =>
 gP (gd v5 false) (rIxStr v6 (.int .i64 0)) fun v7 =>
 hv (gV (gd v5 false) (call (.fn N_k224) [v7] h) h) fun v8 h9 l10 =>
 ob (rPick v5 (.bool true) v8) fun v11 =>
 gP (gd v11 false) (some x0) fun v12 =>
 hv (gV (gd v11 false) (call (.fn N_k225) [v12] h9) h9) fun v13 h14 l15 =>
 ob (rPick v11 (.bool true) v13) fun v16 =>
 jn3 (fun vs18 h19 l20 =>
 jn3 (fun vs22 h23 l24 =>
 fin h (rsT (.bool true) (some [])) h23 l24) fun j21 =>
 ob (lp (F_k186_L122 call lp) [(nt vs18 0), (nt vs18 1), (.int .i64 0), (nt vs18 2), (nt vs18 3), (nt vs18 4), (nt vs18 5), (nt vs18 6)] h19) fun o55 =>
 onEx o55.ex (j21 [] o55.h (o55.lg ++ l20)) (fun i56 => bif Nat.beq i56 0 then j21 [] o55.h (o55.lg ++ l20) else none) (fin h (rsT (nt o55.vs 1) (some [])) o55.h (o55.lg ++ l20))) fun j17 => fork v16
 (fin h (rsT (.bool false) (some [])) h14 (l15 ++ (l10 ++ [])))
 (j17 [x0, (.bool false), poison, poison, poison, poison, poison] h14 (l15 ++ (l10 ++ [])))

-- 189 slices.insertionSortOrdered[int]
noncomputable def F_k189_L914 (call : CallF) (lp : LoopF) : List Value → H → Option LOut := fun vs21 h22 =>
 ob (bI .gtr (nt vs21 4) (nt vs21 1)) fun v23 =>
 gP (gd v23 true) (some (nt vs21 0)) fun v24 =>
 gP (gd v23 true) (some (nt vs21 4)) fun v25 =>
 gP (gd v23 true) (rIdxS 1 v24 v25) fun v26 =>
 gP (gd v23 true) (rLd1 h22.get v26) fun v27 =>
 gP (gd v23 true) (some (nt vs21 0)) fun v28 =>
 gP (gd v23 true) (some (nt vs21 4)) fun v29 =>
 gP (gd v23 true) (bI .sub v29 (.int .i64 1)) fun v30 =>
 gP (gd v23 true) (rIdxS 1 v28 v30) fun v31 =>
 gP (gd v23 true) (rLd1 h22.get v31) fun v32 =>
 hv (gV (gd v23 true) (call (.fn N_k195) [v27, v32] h22) h22) fun v33 h34 l35 =>
 ob (rPick v23 v33 (.bool false)) fun v36 =>
 dr [0, 0, 3, 7, 15, 15, 63, 127, 15, 15, 527, 1807, 3855, 8191, 16383] [mP h22, mP h22, mP h22, mP h22, mG (gd v23 true) .pure [] h22 h22 [], mG (gd v23 true) .pure [] h22 h22 [], mG (gd v23 true) .pure [] h22 h22 [], mG (gd v23 true) .pure (rdP v26) h22 h22 [], mG (gd v23 true) .pure [] h22 h22 [], mG (gd v23 true) .pure [] h22 h22 [], mG (gd v23 true) .pure [] h22 h22 [], mG (gd v23 true) .pure [] h22 h22 [], mG (gd v23 true) .pure (rdP v31) h22 h22 [], mG (gd v23 true) .heavy (rdL [v27, v32]) h22 h34 l35, mP h34] fun l37 =>
 jn3 (fun vs39 h40 l41 =>
 jn3 (fun vs43 h44 l45 =>
 ob (bI .sub (nt vs43 4) (.int .i64 1)) fun v46 =>
 some ⟨.normal, [(nt vs43 0), (nt vs43 1), (nt vs43 2), (nt vs43 3), v46, (nt vs43 5), (nt vs43 6), (nt vs43 7), (nt vs43 8), (nt vs43 9), (nt vs43 10), (nt vs43 11), (nt vs43 12), (nt vs43 13), (nt vs43 14)], h44, l45⟩) fun j42 =>
 ob (bI .sub (nt vs39 4) (.int .i64 1)) fun v47 =>
 ob (bI .sub (nt vs39 4) (.int .i64 1)) fun v48 =>
 ob (rIdxS 1 (nt vs39 0) v48) fun v49 =>
 ob (rLd1 h40.get v49) fun v50 =>
 ob (rIdxS 1 (nt vs39 0) (nt vs39 4)) fun v51 =>
 ob (rLd1 h40.get v51) fun v52 =>
 ob (rIdxS 1 (nt vs39 0) (nt vs39 4)) fun v53 =>
 hv (rStore h40 1 v53 v50) fun v54 h55 l56 =>
 ob (rIdxS 1 (nt vs39 0) v47) fun v57 =>
 hv (rStore h55 1 v57 v52) fun v58 h59 l60 =>
 dr [0, 0, 0, 0, 8, 0, 0, 64, 224, 480, 0, 0, 3072, 7168, 16355, 32739, 65535, 131071] [mP h40, mP h40, mP h40, mP h40, mP h40, mP h40, mP h40, mP h40, mP h40, mR h40 (rdP v49), mP h40, mP h40, mP h40, mR h40 (rdP v51), mP h40, mH h40 [] l56 h55, mP h55, mH h55 [] l60 h59] fun l61 =>
 j42 [(nt vs39 0), (nt vs39 1), (nt vs39 2), (nt vs39 3), (nt vs39 4), (nt vs39 5), (nt vs39 6), (nt vs39 7), (nt vs39 8), (nt vs39 9), (nt vs39 10), (nt vs39 11), (nt vs39 12), (nt vs39 13), (nt vs39 14)] h59 (l61 ++ l41)) fun j38 => fork v36
 (j38 [(nt vs21 0), (nt vs21 1), (nt vs21 2), (nt vs21 3), (nt vs21 4), v24, v25, v26, v27, v28, v29, v30, v31, v32, v33] h34 (l37 ++ []))
 (some ⟨(.exit 2), [(nt vs21 0), (nt vs21 1), (nt vs21 2), (nt vs21 3), (nt vs21 4), v24, v25, v26, v27, v28, v29, v30, v31, v32, v33], h34, (l37 ++ [])⟩)
noncomputable def F_k189_L14 (call : CallF) (lp : LoopF) : List Value → H → Option LOut := fun vs5 h6 =>
 ob (bI .lss (nt vs5 3) (nt vs5 2)) fun v7 =>
 jn3 (fun vs9 h10 l11 =>
 jn3 (fun vs13 h14 l15 =>
 ob (bI .add (nt vs13 3) (.int .i64 1)) fun v16 =>
 some ⟨.normal, [(nt vs13 0), (nt vs13 1), (nt vs13 2), v16, (nt vs13 4), (nt vs13 5), (nt vs13 6), (nt vs13 7), (nt vs13 8), (nt vs13 9), (nt vs13 10), (nt vs13 11), (nt vs13 12), (nt vs13 13)], h14, l15⟩) fun j12 =>
 jn3 (fun vs18 h19 l20 =>
 j12 [(nt vs18 0), (nt vs18 1), (nt vs18 2), (nt vs18 3), (nt vs18 4), (nt vs18 5), (nt vs18 6), (nt vs18 7), (nt vs18 8), (nt vs18 9), (nt vs18 10), (nt vs18 11), (nt vs18 12), (nt vs18 13)] h19 l20) fun j17 =>
 ob (lp (F_k189_L914 call lp) [(nt vs9 0), (nt vs9 1), (nt vs9 2), (nt vs9 3), (nt vs9 3), (nt vs9 4), (nt vs9 5), (nt vs9 6), (nt vs9 7), (nt vs9 8), (nt vs9 9), (nt vs9 10), (nt vs9 11), (nt vs9 12), (nt vs9 13)] h10) fun o62 =>
 onEx o62.ex (j17 [(nt o62.vs 0), (nt o62.vs 1), (nt o62.vs 2), (nt o62.vs 3), (nt o62.vs 5), (nt o62.vs 6), (nt o62.vs 7), (nt o62.vs 8), (nt o62.vs 9), (nt o62.vs 10), (nt o62.vs 11), (nt o62.vs 12), (nt o62.vs 13), (nt o62.vs 14)] o62.h (o62.lg ++ l11)) (fun i63 => bif Nat.beq i63 2 then j17 [(nt o62.vs 0), (nt o62.vs 1), (nt o62.vs 2), (nt o62.vs 3), (nt o62.vs 5), (nt o62.vs 6), (nt o62.vs 7), (nt o62.vs 8), (nt o62.vs 9), (nt o62.vs 10), (nt o62.vs 11), (nt o62.vs 12), (nt o62.vs 13), (nt o62.vs 14)] o62.h (o62.lg ++ l11) else bif Nat.beq i63 1 then j12 [(nt o62.vs 0), (nt o62.vs 1), (nt o62.vs 2), (nt o62.vs 3), (nt o62.vs 5), (nt o62.vs 6), (nt o62.vs 7), (nt o62.vs 8), (nt o62.vs 9), (nt o62.vs 10), (nt o62.vs 11), (nt o62.vs 12), (nt o62.vs 13), (nt o62.vs 14)] o62.h (o62.lg ++ l11) else some ⟨(.exit i63), [(nt o62.vs 0), (nt o62.vs 1), (nt o62.vs 2), (nt o62.vs 3), (nt o62.vs 5), (nt o62.vs 6), (nt o62.vs 7), (nt o62.vs 8), (nt o62.vs 9), (nt o62.vs 10), (nt o62.vs 11), (nt o62.vs 12), (nt o62.vs 13), (nt o62.vs 14)], o62.h, (o62.lg ++ l11)⟩) (some ⟨.ret, [(nt o62.vs 0), (nt o62.vs 1), (nt o62.vs 2), (nt o62.vs 3), (nt o62.vs 5), (nt o62.vs 6), (nt o62.vs 7), (nt o62.vs 8), (nt o62.vs 9), (nt o62.vs 10), (nt o62.vs 11), (nt o62.vs 12), (nt o62.vs 13), (nt o62.vs 14)], o62.h, (o62.lg ++ l11)⟩)) fun j8 => fork v7
 (j8 [(nt vs5 0), (nt vs5 1), (nt vs5 2), (nt vs5 3), (nt vs5 4), (nt vs5 5), (nt vs5 6), (nt vs5 7), (nt vs5 8), (nt vs5 9), (nt vs5 10), (nt vs5 11), (nt vs5 12), (nt vs5 13)] h6 [])
 (some ⟨(.exit 0), [(nt vs5 0), (nt vs5 1), (nt vs5 2), (nt vs5 3), (nt vs5 4), (nt vs5 5), (nt vs5 6), (nt vs5 7), (nt vs5 8), (nt vs5 9), (nt vs5 10), (nt vs5 11), (nt vs5 12), (nt vs5 13)], h6, []⟩)
noncomputable def F_k189 (call : CallF) (lp : LoopF) (x0 : Value) (x1 : Value) (x2 : Value) (h : H) : Option (Value × H × List Nat) :=
 ob (bI .add x1 (.int .i64 1)) fun v0 =>
 jn3 (fun vs2 h3 l4 =>
 fin h (some []) h3 l4) fun j1 =>
 ob (lp (F_k189_L14 call lp) [x0, x1, x2, v0, poison, poison, poison, poison, poison, poison, poison, poison, poison, poison] h) fun o64 =>
 onEx o64.ex (j1 [] o64.h (o64.lg ++ [])) (fun i65 => bif Nat.beq i65 0 then j1 [] o64.h (o64.lg ++ []) else none) (fin h (some []) o64.h (o64.lg ++ []))

-- 195 cmp.Less[int]
noncomputable def F_k195 (call : CallF) (lp : LoopF) (x0 : Value) (x1 : Value) (h : H) : Option (Value × H × List Nat) :=
 hv (call (.fn N_k152) [x0] h) fun v0 h1 l2 =>
 gP (gd v0 true) (some x1) fun v3 =>
 hv (gV (gd v0 true) (call (.fn N_k152) [v3] h1) h1) fun v4 h5 l6 =>
 gP (gd v0 true) (unV .not v4) fun v7 =>
 ob (rPick v0 v7 (.bool false)) fun v8 =>
 gP (gd v8 false) (some x0) fun v9 =>
 gP (gd v8 false) (some x1) fun v10 =>
 gP (gd v8 false) (bI .lss v9 v10) fun v11 =>
 ob (rPick v8 (.bool true) v11) fun v12 =>
 fin h (rsT v12 (some [])) h5 (l6 ++ (l2 ++ []))

-- 199 math/bits.Len64
noncomputable def F_k199 (call : CallF) (lp : LoopF) (x0 : Value) (h : H) : Option (Value × H × List Nat) :=
 ob (binV pgB.ty (tyD (.int .u64)) .geq x0 (.int .u64 4294967296)) fun v0 =>
 jn3 (fun vs2 h3 l4 =>
 ob (binV pgB.ty (tyD (.int .u64)) .geq (nt vs2 0) (.int .u64 65536)) fun v5 =>
 jn3 (fun vs7 h8 l9 =>
 ob (binV pgB.ty (tyD (.int .u64)) .geq (nt vs7 0) (.int .u64 256)) fun v10 =>
 jn3 (fun vs12 h13 l14 =>
 ob (rCvI .u8 (nt vs12 0)) fun v15 =>
 ob (rIxStr (.string ⟨#[0, 1, 2, 2, 3, 3, 3, 3, 4, 4, 4, 4, 4, 4, 4, 4, 5, 5, 5, 5, 5, 5, 5, 5, 5, 5, 5, 5, 5, 5, 5, 5, 6, 6, 6, 6, 6, 6, 6, 6, 6, 6, 6, 6, 6, 6, 6, 6, 6, 6, 6, 6, 6, 6, 6, 6, 6, 6, 6, 6, 6, 6, 6, 6, 7, 7, 7, 7, 7, 7, 7, 7, 7, 7, 7, 7, 7, 7, 7, 7, 7, 7, 7, 7, 7, 7, 7, 7, 7, 7, 7, 7, 7, 7, 7, 7, 7, 7, 7, 7, 7, 7, 7, 7, 7, 7, 7, 7, 7, 7, 7, 7, 7, 7, 7, 7, 7, 7, 7, 7, 7, 7, 7, 7, 7, 7, 7, 7, 8, 8, 8, 8, 8, 8, 8, 8, 8, 8, 8, 8, 8, 8, 8, 8, 8, 8, 8, 8, 8, 8, 8, 8, 8, 8, 8, 8, 8, 8, 8, 8, 8, 8, 8, 8, 8, 8, 8, 8, 8, 8, 8, 8, 8, 8, 8, 8, 8, 8, 8, 8, 8, 8, 8, 8, 8, 8, 8, 8, 8, 8, 8, 8, 8, 8, 8, 8, 8, 8, 8, 8, 8, 8, 8, 8, 8, 8, 8, 8, 8, 8, 8, 8, 8, 8, 8, 8, 8, 8, 8, 8, 8, 8, 8, 8, 8, 8, 8, 8, 8, 8, 8, 8, 8, 8, 8, 8, 8, 8, 8, 8, 8, 8, 8, 8, 8, 8, 8, 8, 8, 8, 8, 8, 8, 8, 8, 8]⟩) v15) fun v16 =>
 ob (rCvI .i64 v16) fun v17 =>
 ob (bI .add (nt vs12 1) v17) fun v18 =>
 fin h (rsT v18 (some [])) h13 l14) fun j11 => fork v10
 (ob (binV pgB.ty (tyD (.int .u64)) .shr (nt vs7 0) (.int .u64 8)) fun v19 =>
 ob (bI .add (nt vs7 1) (.int .i64 8)) fun v20 =>
 j11 [v19, v20] h8 l9)
 (j11 [(nt vs7 0), (nt vs7 1)] h8 l9)) fun j6 => fork v5
 (ob (binV pgB.ty (tyD (.int .u64)) .shr (nt vs2 0) (.int .u64 16)) fun v21 =>
 ob (bI .add (nt vs2 1) (.int .i64 16)) fun v22 =>
 j6 [v21, v22] h3 l4)
 (j6 [(nt vs2 0), (nt vs2 1)] h3 l4)) fun j1 => fork v0
 (ob (binV pgB.ty (tyD (.int .u64)) .shr x0 (.int .u64 32)) fun v23 =>
 j1 [v23, (.int .i64 32)] h [])
 (j1 [x0, (.int .i64 0)] h [])

-- 200 asterism/val.May
noncomputable def F_k200 (call : CallF) (lp : LoopF) (x0 : Value) (h : H) : Option (Value × H × List Nat) :=
 al (aBx h.n T_api_Value 3 x0) h fun v0 h1 =>
 ob (rFld 0 v0) fun v2 =>
 ob (rLd1 h1.get v2) fun v3 =>
 jn3 (fun vs5 h6 l7 =>
 fin h (rsT (.bool false) (some [])) h6 l7) fun j4 =>
 ob (bI .eql v3 (.int .i64 0)) fun v8 =>
 jn3 (fun vs10 h11 l12 =>
 j4 [] h11 l12) fun j9 => fork v8
 (ob (rFld 1 v0) fun v13 =>
 ob (rLd1 h1.get v13) fun v14 =>
 ob (bI .eql v14 (.int .i64 0)) fun v15 =>
 gP (gd v15 true) (rFld 2 v0) fun v16 =>
 gP (gd v15 true) (rLd1 h1.get v16) fun v17 =>
 gP (gd v15 true) (binV pgB.ty (tyD .string) .eql v17 (.string ⟨#[]⟩)) fun v18 =>
 ob (rPick v15 v18 (.bool false)) fun v19 =>
 fin h (rsT v19 (some [])) h1 [])
 (ob (bI .eql v3 (.int .i64 1)) fun v20 =>
 jn3 (fun vs22 h23 l24 =>
 j9 [] h23 l24) fun j21 => fork v20
 (ob (rFld 2 v0) fun v25 =>
 ob (rLd1 h1.get v25) fun v26 =>
 ob (binV pgB.ty (tyD .string) .eql v26 (.string ⟨#[]⟩)) fun v27 =>
 fin h (rsT v27 (some [])) h1 [])
 (ob (bI .eql v3 (.int .i64 2)) fun v28 =>
 jn3 (fun vs30 h31 l32 =>
 j21 [] h31 l32) fun j29 => fork v28
 (ob (rFld 1 v0) fun v33 =>
 ob (rLd1 h1.get v33) fun v34 =>
 ob (bI .eql v34 (.int .i64 0)) fun v35 =>
 gP (gd v35 true) (rFld 2 v0) fun v36 =>
 gP (gd v35 true) (rLd1 h1.get v36) fun v37 =>
 hv (gV (gd v35 true) (call (.fn N_k234) [v37] h1) h1) fun v38 h39 l40 =>
 ob (rPick v35 v38 (.bool false)) fun v41 =>
 fin h (rsT v41 (some [])) h39 (l40 ++ []))
 (j29 [] h1 [])))

-- 201 asterism/asterismref1.May
noncomputable def F_k201_L30194 (call : CallF) (lp : LoopF) : List Value → H → Option LOut := fun vs45 h46 =>
 ob (rFld 2 (nt vs45 0)) fun v47 =>
 ob (rLd1 h46.get v47) fun v48 =>
 ob (rLenS v48) fun v49 =>
 ob (bI .lss (nt vs45 2) v49) fun v50 =>
 jn3 (fun vs52 h53 l54 =>
 jn3 (fun vs56 h57 l58 =>
 ob (bI .add (nt vs56 2) (.int .i64 1)) fun v59 =>
 some ⟨.normal, [(nt vs56 0), (nt vs56 1), v59, (nt vs56 3), (nt vs56 4), (nt vs56 5), (nt vs56 6), (nt vs56 7), (nt vs56 8), (nt vs56 9), (nt vs56 10), (nt vs56 11), (nt vs56 12), (nt vs56 13), (nt vs56 14), (nt vs56 15), (nt vs56 16)], h57, l58⟩) fun j55 =>
 ob (rFld 2 (nt vs52 0)) fun v60 =>
 ob (rLd1 h53.get v60) fun v61 =>
 ob (rIxStr v61 (nt vs52 2)) fun v62 =>
 ob (binV pgB.ty (tyD (.int .u8)) .lss v62 (.int .u8 32)) fun v63 =>
 gP (gd v63 false) (rFld 2 (nt vs52 0)) fun v64 =>
 gP (gd v63 false) (rLd1 h53.get v64) fun v65 =>
 gP (gd v63 false) (some (nt vs52 2)) fun v66 =>
 gP (gd v63 false) (rIxStr v65 v66) fun v67 =>
 gP (gd v63 false) (binV pgB.ty (tyD (.int .u8)) .gtr v67 (.int .u8 126)) fun v68 =>
 ob (rPick v63 (.bool true) v68) fun v69 =>
 gP (gd v69 false) (rFld 2 (nt vs52 0)) fun v70 =>
 gP (gd v69 false) (rLd1 h53.get v70) fun v71 =>
 gP (gd v69 false) (some (nt vs52 2)) fun v72 =>
 gP (gd v69 false) (rIxStr v71 v72) fun v73 =>
 gP (gd v69 false) (binV pgB.ty (tyD (.int .u8)) .eql v73 (.int .u8 39)) fun v74 =>
 ob (rPick v69 (.bool true) v74) fun v75 =>
 jn3 (fun vs77 h78 l79 =>
 j55 [(nt vs77 0), (nt vs77 1), (nt vs77 2), (nt vs77 3), (nt vs77 4), (nt vs77 5), (nt vs77 6), (nt vs77 7), (nt vs77 8), (nt vs77 9), (nt vs77 10), (nt vs77 11), (nt vs77 12), (nt vs77 13), (nt vs77 14), (nt vs77 15), (nt vs77 16)] h78 l79) fun j76 => fork v75
 (some ⟨.ret, [(nt vs52 0), (.bool false), (nt vs52 2), v64, v65, v66, v67, v68, v70, v71, v72, v73, v74, (nt vs52 13), (nt vs52 14), (nt vs52 15), (nt vs52 16)], h53, l54⟩)
 (j76 [(nt vs52 0), (nt vs52 1), (nt vs52 2), v64, v65, v66, v67, v68, v70, v71, v72, v73, v74, (nt vs52 13), (nt vs52 14), (nt vs52 15), (nt vs52 16)] h53 l54)) fun j51 => fork v50
 (j51 [(nt vs45 0), (nt vs45 1), (nt vs45 2), (nt vs45 3), (nt vs45 4), (nt vs45 5), (nt vs45 6), (nt vs45 7), (nt vs45 8), (nt vs45 9), (nt vs45 10), (nt vs45 11), (nt vs45 12), (nt vs45 13), (nt vs45 14), (nt vs45 15), (nt vs45 16)] h46 [])
 (some ⟨(.exit 1), [(nt vs45 0), (nt vs45 1), (nt vs45 2), (nt vs45 3), (nt vs45 4), (nt vs45 5), (nt vs45 6), (nt vs45 7), (nt vs45 8), (nt vs45 9), (nt vs45 10), (nt vs45 11), (nt vs45 12), (nt vs45 13), (nt vs45 14), (nt vs45 15), (nt vs45 16)], h46, []⟩)
noncomputable def F_k201 (call : CallF) (lp : LoopF) (x0 : Value) (h : H) : Option (Value × H × List Nat) :=
 al (aBx h.n T_api_Value 3 x0) h fun v0 h1 =>
 ob (rFld 0 v0) fun v2 =>
 ob (rLd1 h1.get v2) fun v3 =>
 jn3 (fun vs5 h6 l7 =>
 fin h (rsT (.bool false) (some [])) h6 l7) fun j4 =>
 ob (bI .eql v3 (.int .i64 0)) fun v8 =>
 jn3 (fun vs10 h11 l12 =>
 j4 [] h11 l12) fun j9 => fork v8
 (ob (rFld 1 v0) fun v13 =>
 ob (rLd1 h1.get v13) fun v14 =>
 ob (bI .eql v14 (.int .i64 0)) fun v15 =>
 gP (gd v15 true) (rFld 2 v0) fun v16 =>
 gP (gd v15 true) (rLd1 h1.get v16) fun v17 =>
 gP (gd v15 true) (binV pgB.ty (tyD .string) .eql v17 (.string ⟨#[]⟩)) fun v18 =>
 ob (rPick v15 v18 (.bool false)) fun v19 =>
 fin h (rsT v19 (some [])) h1 [])
 (ob (bI .eql v3 (.int .i64 1)) fun v20 =>
 jn3 (fun vs22 h23 l24 =>
 j9 [] h23 l24) fun j21 => fork v20
 (ob (rFld 2 v0) fun v25 =>
 ob (rLd1 h1.get v25) fun v26 =>
 ob (binV pgB.ty (tyD .string) .eql v26 (.string ⟨#[]⟩)) fun v27 =>
 fin h (rsT v27 (some [])) h1 [])
 (ob (bI .eql v3 (.int .i64 2)) fun v28 =>
 jn3 (fun vs30 h31 l32 =>
 j21 [] h31 l32) fun j29 => fork v28
 (jn3 (fun vs34 h35 l36 =>
 ob (rFld 1 (nt vs34 0)) fun v37 =>
 ob (rLd1 h35.get v37) fun v38 =>
 ob (bI .eql v38 (.int .i64 0)) fun v39 =>
 gP (gd v39 true) (rFld 2 (nt vs34 0)) fun v40 =>
 gP (gd v39 true) (rLd1 h35.get v40) fun v41 =>
 gP (gd v39 true) (rLenS v41) fun v42 =>
 gP (gd v39 true) (bI .leq v42 (.int .i64 12)) fun v43 =>
 ob (rPick v39 v43 (.bool false)) fun v44 =>
 fin h (rsT v44 (some [])) h35 l36) fun j33 =>
 ob (lp (F_k201_L30194 call lp) [v0, (.bool false), (.int .i64 0), poison, poison, poison, poison, poison, poison, poison, poison, poison, poison, poison, poison, poison, poison] h1) fun o80 =>
 onEx o80.ex (j33 [(nt o80.vs 0), (nt o80.vs 13), (nt o80.vs 14), (nt o80.vs 15), (nt o80.vs 16)] o80.h (o80.lg ++ [])) (fun i81 => bif Nat.beq i81 1 then j33 [(nt o80.vs 0), (nt o80.vs 13), (nt o80.vs 14), (nt o80.vs 15), (nt o80.vs 16)] o80.h (o80.lg ++ []) else bif Nat.beq i81 0 then j4 [] o80.h (o80.lg ++ []) else none) (fin h (rsT (nt o80.vs 1) (some [])) o80.h (o80.lg ++ [])))
 (j29 [] h1 [])))

-- 202 (*asterism/dict.Dict).words
noncomputable def F_k202 (call : CallF) (lp : LoopF) (x0 : Value) (h : H) : Option (Value × H × List Nat) :=
 ob (binV pgB.ty (tyD (.pointer 0)) .eql x0 (.pointer none)) fun v0 =>
 jn3 (fun vs2 h3 l4 =>
 ob (rNil (nt vs2 0)) fun v5 =>
 ob (rFld 0 v5) fun v6 =>
 ob (rLd1 h3.get v6) fun v7 =>
 ob (binV pgB.ty (tyD (.pointer 0)) .eql v7 (.pointer none)) fun v8 =>
 jn3 (fun vs10 h11 l12 =>
 ob (rNil (nt vs10 0)) fun v13 =>
 ob (rFld 0 v13) fun v14 =>
 ob (rLd1 h11.get v14) fun v15 =>
 fin h (rsT v15 (some [])) h11 l12) fun j9 => fork v8
 (hv (call (.fn N_k235) [(.func (.func N_k236) #[] #[])] h3) fun v16 h17 l18 =>
 ob (rNil (nt vs2 0)) fun v19 =>
 ob (rFld 0 v19) fun v20 =>
 hv (rStore h17 1 v20 v16) fun v21 h22 l23 =>
 j9 [(nt vs2 0)] h22 (l23 ++ (l18 ++ l4)))
 (j9 [(nt vs2 0)] h3 l4)) fun j1 => fork v0
 (fin h (rsT (.pointer none) (some [])) h [])
 (j1 [x0] h [])

-- 203 (*asterism/omap.Map[string, int]).Get
noncomputable def F_k203 (call : CallF) (lp : LoopF) (x0 : Value) (x1 : Value) (h : H) : Option (Value × H × List Nat) :=
 hv (call (.fn N_k237) [x0, x1] h) fun v0 h1 l2 =>
 ob (rExtract 0 v0) fun v3 =>
 ob (rExtract 1 v0) fun v4 =>
 ob (unV .not v4) fun v5 =>
 jn3 (fun vs7 h8 l9 =>
 ob (rNil (nt vs7 0)) fun v10 =>
 ob (rFld 1 v10) fun v11 =>
 ob (rLd1 h8.get v11) fun v12 =>
 ob (rIdxS 2 v12 (nt vs7 1)) fun v13 =>
 ob (rFld 1 v13) fun v14 =>
 ob (rLd1 h8.get v14) fun v15 =>
 fin h (rsT v15 (rsT (.bool true) (some []))) h8 l9) fun j6 => fork v5
 (fin h (rsT (.int .i64 0) (rsT (.bool false) (some []))) h1 (l2 ++ []))
 (j6 [x0, v3] h1 (l2 ++ []))

-- 204 (*asterism/omap.Map[string, int]).Put
noncomputable def F_k204 (call : CallF) (lp : LoopF) (x0 : Value) (x1 : Value) (x2 : Value) (h : H) : Option (Value × H × List Nat) :=
 hv (call (.fn N_k237) [x0, x1] h) fun v0 h1 l2 =>
 ob (rExtract 0 v0) fun v3 =>
 ob (rExtract 1 v0) fun v4 =>
 jn3 (fun vs6 h7 l8 =>
 ob (rNil (nt vs6 0)) fun v9 =>
 ob (rFld 1 v9) fun v10 =>
 ob (rLd1 h7.get v10) fun v11 =>
 ob (oBuild pgB T_omap_pair_string_int [(0, (nt vs6 1)), (1, (nt vs6 2))]) fun v12 =>
 al (aBuildS pgB h7.n T_Lomap_pair_string_int 1 [(0, v12)]) h7 fun v13 h14 =>
 hv (call (.fn N_k238) [v11, (nt vs6 3), v13] h14) fun v15 h16 l17 =>
 ob (rNil (nt vs6 0)) fun v18 =>
 ob (rFld 1 v18) fun v19 =>
 hv (rStore h16 1 v19 v15) fun v20 h21 l22 =>
 fin h (rsT (.bool true) (some [])) h21 (l22 ++ (l17 ++ l8))) fun j5 =>
 jn3 (fun vs24 h25 l26 =>
 j5 [(nt vs24 0), (nt vs24 1), (nt vs24 2), (nt vs24 3)] h25 l26) fun j23 => fork v4
 (ob (rNil x0) fun v27 =>
 ob (rFld 1 v27) fun v28 =>
 ob (rLd1 h1.get v28) fun v29 =>
 ob (rIdxS 2 v29 v3) fun v30 =>
 ob (rFld 1 v30) fun v31 =>
 hv (rStore h1 1 v31 x2) fun v32 h33 l34 =>
 fin h (rsT (.bool false) (some [])) h33 (l34 ++ (l2 ++ [])))
 (ob (binV pgB.ty (tyD (.pointer 0)) .eql x0 (.pointer none)) fun v35 =>
 gP (gd v35 false) (some x0) fun v36 =>
 gP (gd v35 false) (rNil v36) fun v37 =>
 gP (gd v35 false) (rFld 0 v37) fun v38 =>
 gP (gd v35 false) (rLd1 h1.get v38) fun v39 =>
 gP (gd v35 false) (binV pgB.ty (tyD (.func #[] #[] false)) .eql v39 .nilFunc) fun v40 =>
 ob (rPick v35 (.bool true) v40) fun v41 =>
 jn3 (fun vs43 h44 l45 =>
 j23 [(nt vs43 0), (nt vs43 1), (nt vs43 2), (nt vs43 3)] h44 l45) fun j42 => fork v41
 (fin h (rsT (.bool false) (some [])) h1 (l2 ++ []))
 (j42 [x0, x1, x2, v3] h1 (l2 ++ [])))

-- 205 (*asterism/omap.Map[string, int]).Del
noncomputable def F_k205 (call : CallF) (lp : LoopF) (x0 : Value) (x1 : Value) (h : H) : Option (Value × H × List Nat) :=
 hv (call (.fn N_k237) [x0, x1] h) fun v0 h1 l2 =>
 ob (rExtract 0 v0) fun v3 =>
 ob (rExtract 1 v0) fun v4 =>
 jn3 (fun vs6 h7 l8 =>
 fin h (rsT (nt vs6 0) (some [])) h7 l8) fun j5 => fork v4
 (ob (rNil x0) fun v9 =>
 ob (rFld 1 v9) fun v10 =>
 ob (rLd1 h1.get v10) fun v11 =>
 ob (bI .add v3 (.int .i64 1)) fun v12 =>
 hv (call (.fn N_k239) [v11, v3, v12] h1) fun v13 h14 l15 =>
 ob (rNil x0) fun v16 =>
 ob (rFld 1 v16) fun v17 =>
 hv (rStore h14 1 v17 v13) fun v18 h19 l20 =>
 j5 [v4] h19 (l20 ++ (l15 ++ (l2 ++ []))))
 (j5 [v4] h1 (l2 ++ []))

-- 206 (*asterism/dict.Dict).Add
noncomputable def F_k206 (call : CallF) (lp : LoopF) (x0 : Value) (x1 : Value) (h : H) : Option (Value × H × List Nat) :=
 hv (call (.fn N_k202) [x0] h) fun v0 h1 l2 =>
 hv (call (.fn N_k203) [v0, x1] h1) fun v3 h4 l5 =>
 ob (rExtract 0 v3) fun v6 =>
 ob (rExtract 1 v3) fun v7 =>
 ob (bI .add v6 (.int .i64 1)) fun v8 =>
 hv (call (.fn N_k204) [v0, x1, v8] h4) fun v9 h10 l11 =>
 fin h (rsT v9 (some [])) h10 (l11 ++ (l5 ++ (l2 ++ [])))

-- 207 slices.insertionSortCmpFunc[[2]int]
noncomputable def F_k207_L914 (call : CallF) (lp : LoopF) : List Value → H → Option LOut := fun vs21 h22 =>
 ob (bI .gtr (nt vs21 5) (nt vs21 1)) fun v23 =>
 gP (gd v23 true) (some (nt vs21 3)) fun v24 =>
 gP (gd v23 true) (some (nt vs21 0)) fun v25 =>
 gP (gd v23 true) (some (nt vs21 5)) fun v26 =>
 gP (gd v23 true) (rIdxS 2 v25 v26) fun v27 =>
 gP (gd v23 true) (rLdA h22.get 2 v27) fun v28 =>
 gP (gd v23 true) (some (nt vs21 0)) fun v29 =>
 gP (gd v23 true) (some (nt vs21 5)) fun v30 =>
 gP (gd v23 true) (bI .sub v30 (.int .i64 1)) fun v31 =>
 gP (gd v23 true) (rIdxS 2 v29 v31) fun v32 =>
 gP (gd v23 true) (rLdA h22.get 2 v32) fun v33 =>
 hv (gV (gd v23 true) (callV call h22 v24 [v28, v33]) h22) fun v34 h35 l36 =>
 gP (gd v23 true) (bI .lss v34 (.int .i64 0)) fun v37 =>
 ob (rPick v23 v37 (.bool false)) fun v38 =>
 dr [0, 0, 3, 7, 15, 15, 15, 111, 239, 15, 15, 1039, 3599, 7695, 16383, 32767, 65535] [mP h22, mP h22, mP h22, mP h22, mG (gd v23 true) .pure [] h22 h22 [], mG (gd v23 true) .pure [] h22 h22 [], mG (gd v23 true) .pure [] h22 h22 [], mG (gd v23 true) .pure [] h22 h22 [], mG (gd v23 true) .pure (rdP v27) h22 h22 [], mG (gd v23 true) .pure [] h22 h22 [], mG (gd v23 true) .pure [] h22 h22 [], mG (gd v23 true) .pure [] h22 h22 [], mG (gd v23 true) .pure [] h22 h22 [], mG (gd v23 true) .pure (rdP v32) h22 h22 [], mG (gd v23 true) .heavy (rdL [v28, v33]) h22 h35 l36, mG (gd v23 true) .pure [] h35 h35 [], mP h35] fun l39 =>
 jn3 (fun vs41 h42 l43 =>
 jn3 (fun vs45 h46 l47 =>
 ob (bI .sub (nt vs45 5) (.int .i64 1)) fun v48 =>
 some ⟨.normal, [(nt vs45 0), (nt vs45 1), (nt vs45 2), (nt vs45 3), (nt vs45 4), v48, (nt vs45 6), (nt vs45 7), (nt vs45 8), (nt vs45 9), (nt vs45 10), (nt vs45 11), (nt vs45 12), (nt vs45 13), (nt vs45 14), (nt vs45 15), (nt vs45 16), (nt vs45 17)], h46, l47⟩) fun j44 =>
 ob (bI .sub (nt vs41 5) (.int .i64 1)) fun v49 =>
 ob (bI .sub (nt vs41 5) (.int .i64 1)) fun v50 =>
 ob (rIdxS 2 (nt vs41 0) v50) fun v51 =>
 ob (rLdA h42.get 2 v51) fun v52 =>
 ob (rIdxS 2 (nt vs41 0) (nt vs41 5)) fun v53 =>
 ob (rLdA h42.get 2 v53) fun v54 =>
 ob (rIdxS 2 (nt vs41 0) (nt vs41 5)) fun v55 =>
 hv (rStore h42 2 v55 v52) fun v56 h57 l58 =>
 ob (rIdxS 2 (nt vs41 0) v49) fun v59 =>
 hv (rStore h57 2 v59 v54) fun v60 h61 l62 =>
 dr [0, 0, 0, 0, 8, 0, 0, 64, 224, 480, 0, 0, 3072, 7168, 16355, 32739, 65535, 131071] [mP h42, mP h42, mP h42, mP h42, mP h42, mP h42, mP h42, mP h42, mP h42, mR h42 (rdP v51), mP h42, mP h42, mP h42, mR h42 (rdP v53), mP h42, mH h42 [] l58 h57, mP h57, mH h57 [] l62 h61] fun l63 =>
 j44 [(nt vs41 0), (nt vs41 1), (nt vs41 2), (nt vs41 3), (nt vs41 4), (nt vs41 5), (nt vs41 6), (nt vs41 7), (nt vs41 8), (nt vs41 9), (nt vs41 10), (nt vs41 11), (nt vs41 12), (nt vs41 13), (nt vs41 14), (nt vs41 15), (nt vs41 16), (nt vs41 17)] h61 (l63 ++ l43)) fun j40 => fork v38
 (j40 [(nt vs21 0), (nt vs21 1), (nt vs21 2), (nt vs21 3), (nt vs21 4), (nt vs21 5), v24, v25, v26, v27, v28, v29, v30, v31, v32, v33, v34, v37] h35 (l39 ++ []))
 (some ⟨(.exit 2), [(nt vs21 0), (nt vs21 1), (nt vs21 2), (nt vs21 3), (nt vs21 4), (nt vs21 5), v24, v25, v26, v27, v28, v29, v30, v31, v32, v33, v34, v37], h35, (l39 ++ [])⟩)
noncomputable def F_k207_L14 (call : CallF) (lp : LoopF) : List Value → H → Option LOut := fun vs5 h6 =>
 ob (bI .lss (nt vs5 4) (nt vs5 2)) fun v7 =>
 jn3 (fun vs9 h10 l11 =>
 jn3 (fun vs13 h14 l15 =>
 ob (bI .add (nt vs13 4) (.int .i64 1)) fun v16 =>
 some ⟨.normal, [(nt vs13 0), (nt vs13 1), (nt vs13 2), (nt vs13 3), v16, (nt vs13 5), (nt vs13 6), (nt vs13 7), (nt vs13 8), (nt vs13 9), (nt vs13 10), (nt vs13 11), (nt vs13 12), (nt vs13 13), (nt vs13 14), (nt vs13 15), (nt vs13 16)], h14, l15⟩) fun j12 =>
 jn3 (fun vs18 h19 l20 =>
 j12 [(nt vs18 0), (nt vs18 1), (nt vs18 2), (nt vs18 3), (nt vs18 4), (nt vs18 5), (nt vs18 6), (nt vs18 7), (nt vs18 8), (nt vs18 9), (nt vs18 10), (nt vs18 11), (nt vs18 12), (nt vs18 13), (nt vs18 14), (nt vs18 15), (nt vs18 16)] h19 l20) fun j17 =>
 ob (lp (F_k207_L914 call lp) [(nt vs9 0), (nt vs9 1), (nt vs9 2), (nt vs9 3), (nt vs9 4), (nt vs9 4), (nt vs9 5), (nt vs9 6), (nt vs9 7), (nt vs9 8), (nt vs9 9), (nt vs9 10), (nt vs9 11), (nt vs9 12), (nt vs9 13), (nt vs9 14), (nt vs9 15), (nt vs9 16)] h10) fun o64 =>
 onEx o64.ex (j17 [(nt o64.vs 0), (nt o64.vs 1), (nt o64.vs 2), (nt o64.vs 3), (nt o64.vs 4), (nt o64.vs 6), (nt o64.vs 7), (nt o64.vs 8), (nt o64.vs 9), (nt o64.vs 10), (nt o64.vs 11), (nt o64.vs 12), (nt o64.vs 13), (nt o64.vs 14), (nt o64.vs 15), (nt o64.vs 16), (nt o64.vs 17)] o64.h (o64.lg ++ l11)) (fun i65 => bif Nat.beq i65 2 then j17 [(nt o64.vs 0), (nt o64.vs 1), (nt o64.vs 2), (nt o64.vs 3), (nt o64.vs 4), (nt o64.vs 6), (nt o64.vs 7), (nt o64.vs 8), (nt o64.vs 9), (nt o64.vs 10), (nt o64.vs 11), (nt o64.vs 12), (nt o64.vs 13), (nt o64.vs 14), (nt o64.vs 15), (nt o64.vs 16), (nt o64.vs 17)] o64.h (o64.lg ++ l11) else bif Nat.beq i65 1 then j12 [(nt o64.vs 0), (nt o64.vs 1), (nt o64.vs 2), (nt o64.vs 3), (nt o64.vs 4), (nt o64.vs 6), (nt o64.vs 7), (nt o64.vs 8), (nt o64.vs 9), (nt o64.vs 10), (nt o64.vs 11), (nt o64.vs 12), (nt o64.vs 13), (nt o64.vs 14), (nt o64.vs 15), (nt o64.vs 16), (nt o64.vs 17)] o64.h (o64.lg ++ l11) else some ⟨(.exit i65), [(nt o64.vs 0), (nt o64.vs 1), (nt o64.vs 2), (nt o64.vs 3), (nt o64.vs 4), (nt o64.vs 6), (nt o64.vs 7), (nt o64.vs 8), (nt o64.vs 9), (nt o64.vs 10), (nt o64.vs 11), (nt o64.vs 12), (nt o64.vs 13), (nt o64.vs 14), (nt o64.vs 15), (nt o64.vs 16), (nt o64.vs 17)], o64.h, (o64.lg ++ l11)⟩) (some ⟨.ret, [(nt o64.vs 0), (nt o64.vs 1), (nt o64.vs 2), (nt o64.vs 3), (nt o64.vs 4), (nt o64.vs 6), (nt o64.vs 7), (nt o64.vs 8), (nt o64.vs 9), (nt o64.vs 10), (nt o64.vs 11), (nt o64.vs 12), (nt o64.vs 13), (nt o64.vs 14), (nt o64.vs 15), (nt o64.vs 16), (nt o64.vs 17)], o64.h, (o64.lg ++ l11)⟩)) fun j8 => fork v7
 (j8 [(nt vs5 0), (nt vs5 1), (nt vs5 2), (nt vs5 3), (nt vs5 4), (nt vs5 5), (nt vs5 6), (nt vs5 7), (nt vs5 8), (nt vs5 9), (nt vs5 10), (nt vs5 11), (nt vs5 12), (nt vs5 13), (nt vs5 14), (nt vs5 15), (nt vs5 16)] h6 [])
 (some ⟨(.exit 0), [(nt vs5 0), (nt vs5 1), (nt vs5 2), (nt vs5 3), (nt vs5 4), (nt vs5 5), (nt vs5 6), (nt vs5 7), (nt vs5 8), (nt vs5 9), (nt vs5 10), (nt vs5 11), (nt vs5 12), (nt vs5 13), (nt vs5 14), (nt vs5 15), (nt vs5 16)], h6, []⟩)
noncomputable def F_k207 (call : CallF) (lp : LoopF) (x0 : Value) (x1 : Value) (x2 : Value) (x3 : Value) (h : H) : Option (Value × H × List Nat) :=
 ob (bI .add x1 (.int .i64 1)) fun v0 =>
 jn3 (fun vs2 h3 l4 =>
 fin h (some []) h3 l4) fun j1 =>
 ob (lp (F_k207_L14 call lp) [x0, x1, x2, x3, v0, poison, poison, poison, poison, poison, poison, poison, poison, poison, poison, poison, poison] h) fun o66 =>
 onEx o66.ex (j1 [] o66.h (o66.lg ++ [])) (fun i67 => bif Nat.beq i67 0 then j1 [] o66.h (o66.lg ++ []) else none) (fin h (some []) o66.h (o66.lg ++ []))

-- 215 asterism/asterismlaw11.Begun
noncomputable def F_k215 (call : CallF) (lp : LoopF) (h : H) : Option (Value × H × List Nat) :=
 hv (call (.fn N_k243) [] h) fun v0 h1 l2 =>
 fin h (rsT v0 (some [])) h1 (l2 ++ [])

-- 216 (*asterism/omap.Map[string, int]).Len
noncomputable def F_k216 (call : CallF) (lp : LoopF) (x0 : Value) (h : H) : Option (Value × H × List Nat) :=
 ob (binV pgB.ty (tyD (.pointer 0)) .eql x0 (.pointer none)) fun v0 =>
 jn3 (fun vs2 h3 l4 =>
 ob (rNil (nt vs2 0)) fun v5 =>
 ob (rFld 1 v5) fun v6 =>
 ob (rLd1 h3.get v6) fun v7 =>
 ob (rLenL v7) fun v8 =>
 fin h (rsT v8 (some [])) h3 l4) fun j1 => fork v0
 (fin h (rsT (.int .i64 0) (some [])) h [])
 (j1 [x0] h [])

-- 217 asterism/val.Digit
noncomputable def F_k217 (call : CallF) (lp : LoopF) (x0 : Value) (h : H) : Option (Value × H × List Nat) :=
 ob (binV pgB.ty (tyD (.int .u8)) .geq x0 (.int .u8 48)) fun v0 =>
 gP (gd v0 true) (some x0) fun v1 =>
 gP (gd v0 true) (binV pgB.ty (tyD (.int .u8)) .leq v1 (.int .u8 57)) fun v2 =>
 ob (rPick v0 v2 (.bool false)) fun v3 =>
 fin h (rsT v3 (some [])) h []

-- 218 asterism/val.key
noncomputable def F_k218 (call : CallF) (lp : LoopF) (x0 : Value) (h : H) : Option (Value × H × List Nat) :=
 jn3 (fun vs1 h2 l3 =>
 fin h (rsT (.bool false) (some [])) h2 l3) fun j0 =>
 ob (binV pgB.ty (tyD .string) .eql x0 (.string ⟨#[116, 97, 98, 108, 101]⟩)) fun v4 =>
 jn3 (fun vs6 h7 l8 =>
 jn3 (fun vs10 h11 l12 =>
 j0 [] h11 l12) fun j9 => fork (nt vs6 0)
 (fin h (rsT (.bool true) (some [])) h7 l8)
 (j9 [] h7 l8)) fun j5 => fork v4
 (j5 [v4] h [])
 (ob (binV pgB.ty (tyD .string) .eql x0 (.string ⟨#[107, 101, 121]⟩)) fun v13 =>
 jn3 (fun vs15 h16 l17 =>
 j5 [(nt vs15 0)] h16 l17) fun j14 => fork v13
 (j14 [v13] h [])
 (ob (binV pgB.ty (tyD .string) .eql x0 (.string ⟨#[102, 100]⟩)) fun v18 =>
 jn3 (fun vs20 h21 l22 =>
 j14 [(nt vs20 0)] h21 l22) fun j19 => fork v18
 (j19 [v18] h [])
 (ob (binV pgB.ty (tyD .string) .eql x0 (.string ⟨#[105, 110, 116]⟩)) fun v23 =>
 jn3 (fun vs25 h26 l27 =>
 j19 [(nt vs25 0)] h26 l27) fun j24 => fork v23
 (j24 [v23] h [])
 (ob (binV pgB.ty (tyD .string) .eql x0 (.string ⟨#[116, 101, 120, 116]⟩)) fun v28 =>
 jn3 (fun vs30 h31 l32 =>
 j24 [(nt vs30 0)] h31 l32) fun j29 => fork v28
 (j29 [v28] h [])
 (ob (binV pgB.ty (tyD .string) .eql x0 (.string ⟨#[109, 117, 115, 116]⟩)) fun v33 =>
 jn3 (fun vs35 h36 l37 =>
 j29 [(nt vs35 0)] h36 l37) fun j34 => fork v33
 (j34 [v33] h [])
 (ob (binV pgB.ty (tyD .string) .eql x0 (.string ⟨#[116, 111]⟩)) fun v38 =>
 jn3 (fun vs40 h41 l42 =>
 j34 [(nt vs40 0)] h41 l42) fun j39 => fork v38
 (j39 [v38] h [])
 (ob (binV pgB.ty (tyD .string) .eql x0 (.string ⟨#[108, 111, 97, 100]⟩)) fun v43 =>
 jn3 (fun vs45 h46 l47 =>
 j39 [(nt vs45 0)] h46 l47) fun j44 => fork v43
 (j44 [v43] h [])
 (ob (binV pgB.ty (tyD .string) .eql x0 (.string ⟨#[105, 110, 115, 101, 114, 116]⟩)) fun v48 =>
 jn3 (fun vs50 h51 l52 =>
 j44 [(nt vs50 0)] h51 l52) fun j49 => fork v48
 (j49 [v48] h [])
 (ob (binV pgB.ty (tyD .string) .eql x0 (.string ⟨#[100, 101, 108, 101, 116, 101]⟩)) fun v53 =>
 jn3 (fun vs55 h56 l57 =>
 j49 [(nt vs55 0)] h56 l57) fun j54 => fork v53
 (j54 [v53] h [])
 (ob (binV pgB.ty (tyD .string) .eql x0 (.string ⟨#[117, 112, 100, 97, 116, 101]⟩)) fun v58 =>
 jn3 (fun vs60 h61 l62 =>
 j54 [(nt vs60 0)] h61 l62) fun j59 => fork v58
 (j59 [v58] h [])
 (ob (binV pgB.ty (tyD .string) .eql x0 (.string ⟨#[115, 117, 109, 109, 97, 114, 121]⟩)) fun v63 =>
 jn3 (fun vs65 h66 l67 =>
 j59 [(nt vs65 0)] h66 l67) fun j64 => fork v63
 (j64 [v63] h [])
 (ob (binV pgB.ty (tyD .string) .eql x0 (.string ⟨#[111, 110]⟩)) fun v68 =>
 jn3 (fun vs70 h71 l72 =>
 j64 [(nt vs70 0)] h71 l72) fun j69 => fork v68
 (j69 [v68] h [])
 (ob (binV pgB.ty (tyD .string) .eql x0 (.string ⟨#[98, 121]⟩)) fun v73 =>
 jn3 (fun vs75 h76 l77 =>
 j69 [(nt vs75 0)] h76 l77) fun j74 => fork v73
 (j74 [v73] h [])
 (ob (binV pgB.ty (tyD .string) .eql x0 (.string ⟨#[107, 101, 101, 112]⟩)) fun v78 =>
 jn3 (fun vs80 h81 l82 =>
 j74 [(nt vs80 0)] h81 l82) fun j79 => fork v78
 (j79 [v78] h [])
 (ob (binV pgB.ty (tyD .string) .eql x0 (.string ⟨#[100, 114, 111, 112]⟩)) fun v83 =>
 jn3 (fun vs85 h86 l87 =>
 j79 [(nt vs85 0)] h86 l87) fun j84 => fork v83
 (j84 [v83] h [])
 (ob (binV pgB.ty (tyD .string) .eql x0 (.string ⟨#[102, 114, 111, 109]⟩)) fun v88 =>
 jn3 (fun vs90 h91 l92 =>
 j84 [(nt vs90 0)] h91 l92) fun j89 => fork v88
 (j89 [v88] h [])
 (ob (binV pgB.ty (tyD .string) .eql x0 (.string ⟨#[119, 104, 101, 114, 101]⟩)) fun v93 =>
 jn3 (fun vs95 h96 l97 =>
 j89 [(nt vs95 0)] h96 l97) fun j94 => fork v93
 (j94 [v93] h [])
 (ob (binV pgB.ty (tyD .string) .eql x0 (.string ⟨#[97, 110, 100]⟩)) fun v98 =>
 jn3 (fun vs100 h101 l102 =>
 j94 [(nt vs100 0)] h101 l102) fun j99 => fork v98
 (j99 [v98] h [])
 (ob (binV pgB.ty (tyD .string) .eql x0 (.string ⟨#[105, 115]⟩)) fun v103 =>
 jn3 (fun vs105 h106 l107 =>
 j99 [(nt vs105 0)] h106 l107) fun j104 => fork v103
 (j104 [v103] h [])
 (ob (binV pgB.ty (tyD .string) .eql x0 (.string ⟨#[110, 111, 116]⟩)) fun v108 =>
 jn3 (fun vs110 h111 l112 =>
 j104 [(nt vs110 0)] h111 l112) fun j109 => fork v108
 (j109 [v108] h [])
 (ob (binV pgB.ty (tyD .string) .eql x0 (.string ⟨#[110, 117, 108, 108]⟩)) fun v113 =>
 jn3 (fun vs115 h116 l117 =>
 j109 [(nt vs115 0)] h116 l117) fun j114 => fork v113
 (j114 [v113] h [])
 (ob (binV pgB.ty (tyD .string) .eql x0 (.string ⟨#[114, 111, 108, 108, 117, 112]⟩)) fun v118 =>
 jn3 (fun vs120 h121 l122 =>
 j114 [(nt vs120 0)] h121 l122) fun j119 => fork v118
 (j119 [v118] h [])
 (ob (binV pgB.ty (tyD .string) .eql x0 (.string ⟨#[99, 117, 98, 101]⟩)) fun v123 =>
 jn3 (fun vs125 h126 l127 =>
 j119 [(nt vs125 0)] h126 l127) fun j124 => fork v123
 (j124 [v123] h [])
 (ob (binV pgB.ty (tyD .string) .eql x0 (.string ⟨#[115, 104, 111, 119]⟩)) fun v128 =>
 jn3 (fun vs130 h131 l132 =>
 j124 [(nt vs130 0)] h131 l132) fun j129 => fork v128
 (j129 [v128] h [])
 (ob (binV pgB.ty (tyD .string) .eql x0 (.string ⟨#[104, 97, 118, 105, 110, 103]⟩)) fun v133 =>
 jn3 (fun vs135 h136 l137 =>
 j129 [(nt vs135 0)] h136 l137) fun j134 => fork v133
 (j134 [v133] h [])
 (ob (binV pgB.ty (tyD .string) .eql x0 (.string ⟨#[111, 114, 100, 101, 114]⟩)) fun v138 =>
 jn3 (fun vs140 h141 l142 =>
 j134 [(nt vs140 0)] h141 l142) fun j139 => fork v138
 (j139 [v138] h [])
 (ob (binV pgB.ty (tyD .string) .eql x0 (.string ⟨#[100, 101, 115, 99]⟩)) fun v143 =>
 jn3 (fun vs145 h146 l147 =>
 j139 [(nt vs145 0)] h146 l147) fun j144 => fork v143
 (j144 [v143] h [])
 (ob (binV pgB.ty (tyD .string) .eql x0 (.string ⟨#[108, 105, 109, 105, 116]⟩)) fun v148 =>
 jn3 (fun vs150 h151 l152 =>
 j144 [(nt vs150 0)] h151 l152) fun j149 => fork v148
 (j149 [v148] h [])
 (ob (binV pgB.ty (tyD .string) .eql x0 (.string ⟨#[117, 115, 105, 110, 103]⟩)) fun v153 =>
 jn3 (fun vs155 h156 l157 =>
 j149 [(nt vs155 0)] h156 l157) fun j154 => fork v153
 (j154 [v153] h [])
 (ob (binV pgB.ty (tyD .string) .eql x0 (.string ⟨#[98, 97, 115, 101]⟩)) fun v158 =>
 jn3 (fun vs160 h161 l162 =>
 j154 [(nt vs160 0)] h161 l162) fun j159 => fork v158
 (j159 [v158] h [])
 (ob (binV pgB.ty (tyD .string) .eql x0 (.string ⟨#[99, 111, 117, 110, 116]⟩)) fun v163 =>
 jn3 (fun vs165 h166 l167 =>
 j159 [(nt vs165 0)] h166 l167) fun j164 => fork v163
 (j164 [v163] h [])
 (ob (binV pgB.ty (tyD .string) .eql x0 (.string ⟨#[115, 117, 109]⟩)) fun v168 =>
 jn3 (fun vs170 h171 l172 =>
 j164 [(nt vs170 0)] h171 l172) fun j169 => fork v168
 (j169 [v168] h [])
 (ob (binV pgB.ty (tyD .string) .eql x0 (.string ⟨#[109, 105, 110]⟩)) fun v173 =>
 jn3 (fun vs175 h176 l177 =>
 j169 [(nt vs175 0)] h176 l177) fun j174 => fork v173
 (j174 [v173] h [])
 (ob (binV pgB.ty (tyD .string) .eql x0 (.string ⟨#[109, 97, 120]⟩)) fun v178 =>
 jn3 (fun vs180 h181 l182 =>
 j174 [(nt vs180 0)] h181 l182) fun j179 => fork v178
 (j179 [v178] h [])
 (ob (binV pgB.ty (tyD .string) .eql x0 (.string ⟨#[97, 118, 103]⟩)) fun v183 =>
 jn3 (fun vs185 h186 l187 =>
 j179 [(nt vs185 0)] h186 l187) fun j184 => fork v183
 (j184 [v183] h [])
 (ob (binV pgB.ty (tyD .string) .eql x0 (.string ⟨#[100, 105, 115, 116, 105, 110, 99, 116]⟩)) fun v188 =>
 jn3 (fun vs190 h191 l192 =>
 j184 [(nt vs190 0)] h191 l192) fun j189 => fork v188
 (j189 [v188] h [])
 (ob (binV pgB.ty (tyD .string) .eql x0 (.string ⟨#[114, 111, 119, 115]⟩)) fun v193 =>
 j189 [v193] h [])))))))))))))))))))))))))))))))))))))

-- 219 asterism/val.Letter
noncomputable def F_k219 (call : CallF) (lp : LoopF) (x0 : Value) (h : H) : Option (Value × H × List Nat) :=
 ob (binV pgB.ty (tyD (.int .u8)) .geq x0 (.int .u8 97)) fun v0 =>
 gP (gd v0 true) (some x0) fun v1 =>
 gP (gd v0 true) (binV pgB.ty (tyD (.int .u8)) .leq v1 (.int .u8 122)) fun v2 =>
 ob (rPick v0 v2 (.bool false)) fun v3 =>
 gP (gd v3 false) (some x0) fun v4 =>
 gP (gd v3 false) (binV pgB.ty (tyD (.int .u8)) .eql v4 (.int .u8 95)) fun v5 =>
 ob (rPick v3 (.bool true) v5) fun v6 =>
 fin h (rsT v6 (some [])) h []

-- 220 slices.Contains[[]string,string]
noncomputable def F_k220 (call : CallF) (lp : LoopF) (x0 : Value) (x1 : Value) (h : H) : Option (Value × H × List Nat) :=
 hv (call (.fn N_k244) [x0, x1] h) fun v0 h1 l2 =>
 ob (bI .geq v0 (.int .i64 0)) fun v3 =>
 fin h (rsT v3 (some [])) h1 (l2 ++ [])

-- 221 slices.IndexFunc[[]asterism/api.Dep,asterism/api.Dep]
noncomputable def F_k221_L58 (call : CallF) (lp : LoopF) : List Value → H → Option LOut := fun vs5 h6 =>
 ob (bI .lss (nt vs5 4) (nt vs5 3)) fun v7 =>
 jn3 (fun vs9 h10 l11 =>
 jn3 (fun vs13 h14 l15 =>
 ob (bI .add (nt vs13 4) (.int .i64 1)) fun v16 =>
 some ⟨.normal, [(nt vs13 0), (nt vs13 1), (nt vs13 2), (nt vs13 3), v16], h14, l15⟩) fun j12 =>
 ob (rIdxS 2 (nt vs9 0) (nt vs9 4)) fun v17 =>
 ob (rLdA h10.get 2 v17) fun v18 =>
 hv (callV call h10 (nt vs9 1) [v18]) fun v19 h20 l21 =>
 jn3 (fun vs23 h24 l25 =>
 j12 [(nt vs23 0), (nt vs23 1), (nt vs23 2), (nt vs23 3), (nt vs23 4)] h24 l25) fun j22 => fork v19
 (some ⟨.ret, [(nt vs9 0), (nt vs9 1), (nt vs9 4), (nt vs9 3), (nt vs9 4)], h20, (l21 ++ l11)⟩)
 (j22 [(nt vs9 0), (nt vs9 1), (nt vs9 2), (nt vs9 3), (nt vs9 4)] h20 (l21 ++ l11))) fun j8 => fork v7
 (j8 [(nt vs5 0), (nt vs5 1), (nt vs5 2), (nt vs5 3), (nt vs5 4)] h6 [])
 (some ⟨(.exit 0), [(nt vs5 0), (nt vs5 1), (nt vs5 2), (nt vs5 3), (nt vs5 4)], h6, []⟩)
noncomputable def F_k221 (call : CallF) (lp : LoopF) (x0 : Value) (x1 : Value) (h : H) : Option (Value × H × List Nat) :=
 ob (rLenL x0) fun v0 =>
 jn3 (fun vs2 h3 l4 =>
 fin h (rsT (.int .i64 (-1)) (some [])) h3 l4) fun j1 =>
 ob (lp (F_k221_L58 call lp) [x0, x1, (.int .i64 0), v0, (.int .i64 0)] h) fun o26 =>
 onEx o26.ex (j1 [] o26.h (o26.lg ++ [])) (fun i27 => bif Nat.beq i27 0 then j1 [] o26.h (o26.lg ++ []) else none) (fin h (rsT (nt o26.vs 2) (some [])) o26.h (o26.lg ++ []))

-- 222 asterism/schema.dep$1
noncomputable def F_k222 (call : CallF) (lp : LoopF) (x0 : Value) (x1 : Value) (h : H) : Option (Value × H × List Nat) :=
 ob (rLdA h.get 4 x1) fun v0 =>
 hv (call (.fn N_k143) [v0, x0] h) fun v1 h2 l3 =>
 ob (bI .lss v1 (.int .i64 0)) fun v4 =>
 fin h (rsT v4 (some [])) h2 (l3 ++ [])

-- 223 slices.ContainsFunc[[]string,string]
noncomputable def F_k223 (call : CallF) (lp : LoopF) (x0 : Value) (x1 : Value) (h : H) : Option (Value × H × List Nat) :=
 hv (call (.fn N_k245) [x0, x1] h) fun v0 h1 l2 =>
 ob (bI .geq v0 (.int .i64 0)) fun v3 =>
 fin h (rsT v3 (some [])) h1 (l2 ++ [])

-- 224 asterism/asterismref1.Digit
noncomputable def F_k224 (call : CallF) (lp : LoopF) (x0 : Value) (h : H) : Option (Value × H × List Nat) :=
 ob (binV pgB.ty (tyD (.int .u8)) .geq x0 (.int .u8 48)) fun v0 =>
 gP (gd v0 true) (some x0) fun v1 =>
 gP (gd v0 true) (binV pgB.ty (tyD (.int .u8)) .leq v1 (.int .u8 57)) fun v2 =>
 ob (rPick v0 v2 (.bool false)) fun v3 =>
 fin h (rsT v3 (some [])) h []

-- 225 asterism/asterismref1.Word
noncomputable def F_k225_L122 (call : CallF) (lp : LoopF) : List Value → H → Option LOut := fun vs6 h7 =>
 ob (rLenL (nt vs6 2)) fun v8 =>
 ob (bI .lss (nt vs6 3) v8) fun v9 =>
 jn3 (fun vs11 h12 l13 =>
 jn3 (fun vs15 h16 l17 =>
 ob (bI .add (nt vs15 3) (.int .i64 1)) fun v18 =>
 some ⟨.normal, [(nt vs15 0), (nt vs15 1), (nt vs15 2), v18], h16, l17⟩) fun j14 =>
 ob (rIdxS 1 (nt vs11 2) (nt vs11 3)) fun v19 =>
 ob (rLd1 h12.get v19) fun v20 =>
 ob (binV pgB.ty (tyD .string) .eql v20 (nt vs11 0)) fun v21 =>
 jn3 (fun vs23 h24 l25 =>
 j14 [(nt vs23 0), (nt vs23 1), (nt vs23 2), (nt vs23 3)] h24 l25) fun j22 => fork v21
 (some ⟨.ret, [(nt vs11 0), (.bool true), (nt vs11 2), (nt vs11 3)], h12, l13⟩)
 (j22 [(nt vs11 0), (nt vs11 1), (nt vs11 2), (nt vs11 3)] h12 l13)) fun j10 => fork v9
 (j10 [(nt vs6 0), (nt vs6 1), (nt vs6 2), (nt vs6 3)] h7 [])
 (some ⟨(.exit 0), [(nt vs6 0), (nt vs6 1), (nt vs6 2), (nt vs6 3)], h7, []⟩)
noncomputable def F_k225 (call : CallF) (lp : LoopF) (x0 : Value) (h : H) : Option (Value × H × List Nat) :=
 al (aBuildS pgB h.n T_Lstring 38 [(0, (.string ⟨#[116, 97, 98, 108, 101]⟩)), (1, (.string ⟨#[107, 101, 121]⟩)), (2, (.string ⟨#[102, 100]⟩)), (3, (.string ⟨#[105, 110, 116]⟩)), (4, (.string ⟨#[116, 101, 120, 116]⟩)), (5, (.string ⟨#[109, 117, 115, 116]⟩)), (6, (.string ⟨#[116, 111]⟩)), (7, (.string ⟨#[108, 111, 97, 100]⟩)), (8, (.string ⟨#[105, 110, 115, 101, 114, 116]⟩)), (9, (.string ⟨#[100, 101, 108, 101, 116, 101]⟩)), (10, (.string ⟨#[117, 112, 100, 97, 116, 101]⟩)), (11, (.string ⟨#[115, 117, 109, 109, 97, 114, 121]⟩)), (12, (.string ⟨#[111, 110]⟩)), (13, (.string ⟨#[98, 121]⟩)), (14, (.string ⟨#[107, 101, 101, 112]⟩)), (15, (.string ⟨#[100, 114, 111, 112]⟩)), (16, (.string ⟨#[102, 114, 111, 109]⟩)), (17, (.string ⟨#[119, 104, 101, 114, 101]⟩)), (18, (.string ⟨#[97, 110, 100]⟩)), (19, (.string ⟨#[105, 115]⟩)), (20, (.string ⟨#[110, 111, 116]⟩)), (21, (.string ⟨#[110, 117, 108, 108]⟩)), (22, (.string ⟨#[114, 111, 108, 108, 117, 112]⟩)), (23, (.string ⟨#[99, 117, 98, 101]⟩)), (24, (.string ⟨#[115, 104, 111, 119]⟩)), (25, (.string ⟨#[104, 97, 118, 105, 110, 103]⟩)), (26, (.string ⟨#[111, 114, 100, 101, 114]⟩)), (27, (.string ⟨#[100, 101, 115, 99]⟩)), (28, (.string ⟨#[108, 105, 109, 105, 116]⟩)), (29, (.string ⟨#[117, 115, 105, 110, 103]⟩)), (30, (.string ⟨#[98, 97, 115, 101]⟩)), (31, (.string ⟨#[99, 111, 117, 110, 116]⟩)), (32, (.string ⟨#[115, 117, 109]⟩)), (33, (.string ⟨#[109, 105, 110]⟩)), (34, (.string ⟨#[109, 97, 120]⟩)), (35, (.string ⟨#[97, 118, 103]⟩)), (36, (.string ⟨#[100, 105, 115, 116, 105, 110, 99, 116]⟩)), (37, (.string ⟨#[114, 111, 119, 115]⟩))]) h fun v0 h1 =>
 jn3 (fun vs3 h4 l5 =>
 fin h (rsT (.bool false) (some [])) h4 l5) fun j2 =>
 ob (lp (F_k225_L122 call lp) [x0, (.bool false), v0, (.int .i64 0)] h1) fun o26 =>
 onEx o26.ex (j2 [] o26.h (o26.lg ++ [])) (fun i27 => bif Nat.beq i27 0 then j2 [] o26.h (o26.lg ++ []) else none) (fin h (rsT (nt o26.vs 1) (some [])) o26.h (o26.lg ++ []))

-- 226 asterism/asterismref1.Letter
noncomputable def F_k226 (call : CallF) (lp : LoopF) (x0 : Value) (h : H) : Option (Value × H × List Nat) :=
 ob (binV pgB.ty (tyD (.int .u8)) .eql x0 (.int .u8 95)) fun v0 =>
 gP (gd v0 false) (some x0) fun v1 =>
 gP (gd v0 false) (binV pgB.ty (tyD (.int .u8)) .geq v1 (.int .u8 97)) fun v2 =>
 gP (gd v0 false) (some v2) fun v3 =>
 gP (gd v3 true) (some x0) fun v4 =>
 gP (gd v3 true) (binV pgB.ty (tyD (.int .u8)) .leq v4 (.int .u8 122)) fun v5 =>
 gP (gd v0 false) (rPick v3 v5 (.bool false)) fun v6 =>
 ob (rPick v0 (.bool true) v6) fun v7 =>
 fin h (rsT v7 (some [])) h []

-- 234 asterism/val.text
noncomputable def F_k234_L58 (call : CallF) (lp : LoopF) : List Value → H → Option LOut := fun vs7 h8 =>
 ob (bI .lss (nt vs7 3) (nt vs7 2)) fun v9 =>
 jn3 (fun vs11 h12 l13 =>
 jn3 (fun vs15 h16 l17 =>
 ob (bI .add (nt vs15 3) (.int .i64 1)) fun v18 =>
 some ⟨.normal, [(nt vs15 0), (nt vs15 1), (nt vs15 2), v18, (nt vs15 4), (nt vs15 5), (nt vs15 6), (nt vs15 7), (nt vs15 8), (nt vs15 9), (nt vs15 10), (nt vs15 11)], h16, l17⟩) fun j14 =>
 ob (rIxStr (nt vs11 0) (nt vs11 3)) fun v19 =>
 ob (binV pgB.ty (tyD (.int .u8)) .lss v19 (.int .u8 32)) fun v20 =>
 gP (gd v20 false) (some (nt vs11 0)) fun v21 =>
 gP (gd v20 false) (some (nt vs11 3)) fun v22 =>
 gP (gd v20 false) (rIxStr v21 v22) fun v23 =>
 gP (gd v20 false) (binV pgB.ty (tyD (.int .u8)) .gtr v23 (.int .u8 126)) fun v24 =>
 ob (rPick v20 (.bool true) v24) fun v25 =>
 gP (gd v25 false) (some (nt vs11 0)) fun v26 =>
 gP (gd v25 false) (some (nt vs11 3)) fun v27 =>
 gP (gd v25 false) (rIxStr v26 v27) fun v28 =>
 gP (gd v25 false) (binV pgB.ty (tyD (.int .u8)) .eql v28 (.int .u8 39)) fun v29 =>
 ob (rPick v25 (.bool true) v29) fun v30 =>
 jn3 (fun vs32 h33 l34 =>
 j14 [(nt vs32 0), (nt vs32 1), (nt vs32 2), (nt vs32 3), (nt vs32 4), (nt vs32 5), (nt vs32 6), (nt vs32 7), (nt vs32 8), (nt vs32 9), (nt vs32 10), (nt vs32 11)] h33 l34) fun j31 => fork v30
 (some ⟨.ret, [(nt vs11 0), (.bool false), (nt vs11 2), (nt vs11 3), v21, v22, v23, v24, v26, v27, v28, v29], h12, l13⟩)
 (j31 [(nt vs11 0), (nt vs11 1), (nt vs11 2), (nt vs11 3), v21, v22, v23, v24, v26, v27, v28, v29] h12 l13)) fun j10 => fork v9
 (j10 [(nt vs7 0), (nt vs7 1), (nt vs7 2), (nt vs7 3), (nt vs7 4), (nt vs7 5), (nt vs7 6), (nt vs7 7), (nt vs7 8), (nt vs7 9), (nt vs7 10), (nt vs7 11)] h8 [])
 (some ⟨(.exit 0), [(nt vs7 0), (nt vs7 1), (nt vs7 2), (nt vs7 3), (nt vs7 4), (nt vs7 5), (nt vs7 6), (nt vs7 7), (nt vs7 8), (nt vs7 9), (nt vs7 10), (nt vs7 11)], h8, []⟩)
noncomputable def F_k234 (call : CallF) (lp : LoopF) (x0 : Value) (h : H) : Option (Value × H × List Nat) :=
 ob (rLenS x0) fun v0 =>
 jn3 (fun vs2 h3 l4 =>
 ob (rLenS (nt vs2 0)) fun v5 =>
 ob (bI .leq v5 (.int .i64 12)) fun v6 =>
 fin h (rsT v6 (some [])) h3 l4) fun j1 =>
 ob (lp (F_k234_L58 call lp) [x0, (.bool false), v0, (.int .i64 0), poison, poison, poison, poison, poison, poison, poison, poison] h) fun o35 =>
 onEx o35.ex (j1 [(nt o35.vs 0)] o35.h (o35.lg ++ [])) (fun i36 => bif Nat.beq i36 0 then j1 [(nt o35.vs 0)] o35.h (o35.lg ++ []) else none) (fin h (rsT (nt o35.vs 1) (some [])) o35.h (o35.lg ++ []))

-- 235 asterism/omap.New[string,int]
noncomputable def F_k235 (call : CallF) (lp : LoopF) (x0 : Value) (h : H) : Option (Value × H × List Nat) :=
 ob (oBuild pgB T_omap_Map_string_int [(0, x0)]) fun v0 =>
 al (aBx h.n T_omap_Map_string_int 2 v0) h fun v1 h2 =>
 fin h (rsT v1 (some [])) h2 []

-- 236 strings.Compare
noncomputable def F_k236 (call : CallF) (lp : LoopF) (x0 : Value) (x1 : Value) (h : H) : Option (Value × H × List Nat) :=
 hv (call (.fn N_k247) [x0, x1] h) fun v0 h1 l2 =>
 fin h (rsT v0 (some [])) h1 (l2 ++ [])

-- 237 (*asterism/omap.Map[string, int]).find
noncomputable def F_k237 (call : CallF) (lp : LoopF) (x0 : Value) (x1 : Value) (h : H) : Option (Value × H × List Nat) :=
 al (aBx h.n T_Pomap_Map_string_int 1 x0) h fun v0 h1 =>
 ob (rLd1 h1.get v0) fun v2 =>
 ob (binV pgB.ty (tyD (.pointer 0)) .eql v2 (.pointer none)) fun v3 =>
 gP (gd v3 false) (rLd1 h1.get v0) fun v4 =>
 gP (gd v3 false) (rNil v4) fun v5 =>
 gP (gd v3 false) (rFld 0 v5) fun v6 =>
 gP (gd v3 false) (rLd1 h1.get v6) fun v7 =>
 gP (gd v3 false) (binV pgB.ty (tyD (.func #[] #[] false)) .eql v7 .nilFunc) fun v8 =>
 ob (rPick v3 (.bool true) v8) fun v9 =>
 jn3 (fun vs11 h12 l13 =>
 ob (rLd1 h12.get (nt vs11 1)) fun v14 =>
 ob (rNil v14) fun v15 =>
 ob (rFld 1 v15) fun v16 =>
 ob (rLd1 h12.get v16) fun v17 =>
 ob (oFunc N_k249 #[] #[(nt vs11 1)]) fun v18 =>
 hv (call (.fn N_k248) [v17, (nt vs11 0), v18] h12) fun v19 h20 l21 =>
 ob (rExtract 0 v19) fun v22 =>
 ob (rExtract 1 v19) fun v23 =>
 fin h (rsT v22 (rsT v23 (some []))) h20 (l21 ++ l13)) fun j10 => fork v9
 (fin h (rsT (.int .i64 0) (rsT (.bool false) (some []))) h1 [])
 (j10 [x1, v0] h1 [])

-- 238 slices.Insert[[]asterism/omap.pair[string, int],asterism/omap.pair[string, int]]
noncomputable def F_k238 (call : CallF) (lp : LoopF) (x0 : Value) (x1 : Value) (x2 : Value) (h : H) : Option (Value × H × List Nat) :=
 ob (rSl h.get T_omap_pair_string_int 2 x0 (some x1) none none) fun v0 =>
 ob (rLenL x2) fun v1 =>
 ob (bI .eql v1 (.int .i64 0)) fun v2 =>
 jn3 (fun vs4 h5 l6 =>
 ob (rLenL (nt vs4 0)) fun v7 =>
 ob (bI .eql (nt vs4 1) v7) fun v8 =>
 jn3 (fun vs10 h11 l12 =>
 ob (bI .add (nt vs10 4) (nt vs10 3)) fun v13 =>
 ob (rCapL (nt vs10 0)) fun v14 =>
 ob (bI .gtr v13 v14) fun v15 =>
 jn3 (fun vs17 h18 l19 =>
 ob (bI .add (nt vs17 4) (nt vs17 3)) fun v20 =>
 ob (rSl h18.get T_omap_pair_string_int 2 (nt vs17 0) none (some v20) none) fun v21 =>
 ob (bI .add (nt vs17 1) (nt vs17 3)) fun v22 =>
 ob (rSl h18.get T_omap_pair_string_int 2 v21 (some v22) none none) fun v23 =>
 hv (call (.fn N_k250) [(nt vs17 2), v23] h18) fun v24 h25 l26 =>
 ob (unV .not v24) fun v27 =>
 jn3 (fun vs29 h30 l31 =>
 ob (rSl h30.get T_omap_pair_string_int 2 (nt vs29 0) (some (nt vs29 4)) none none) fun v32 =>
 hv (rCopy h30 2 v32 (nt vs29 2)) fun v33 h34 l35 =>
 ob (rSl h34.get T_omap_pair_string_int 2 (nt vs29 0) (some (nt vs29 1)) none none) fun v36 =>
 hv (call (.fn N_k251) [v36, (nt vs29 3)] h34) fun v37 h38 l39 =>
 fin h (rsT (nt vs29 0) (some [])) h38 (l39 ++ (l35 ++ l31))) fun j28 => fork v27
 (ob (bI .add (nt vs17 1) (nt vs17 3)) fun v40 =>
 ob (rSl h25.get T_omap_pair_string_int 2 v21 (some v40) none none) fun v41 =>
 ob (rSl h25.get T_omap_pair_string_int 2 v21 (some (nt vs17 1)) none none) fun v42 =>
 hv (rCopy h25 2 v41 v42) fun v43 h44 l45 =>
 dr [0, 0, 0, 6, 15, 0, 0, 96, 255] [mP h25, mP h25, mP h25, mP h25, mR h25 (rdS v21), mP h25, mP h25, mR h25 (rdS v21), mH h25 (rdL [v41, v42]) l45 h44] fun l46 =>
 ob (rSl h44.get T_omap_pair_string_int 2 v21 (some (nt vs17 1)) none none) fun v47 =>
 hv (rCopy h44 2 v47 (nt vs17 2)) fun v48 h49 l50 =>
 fin h (rsT v21 (some [])) h49 (l50 ++ (l46 ++ (l26 ++ l19))))
 (j28 [v21, (nt vs17 1), (nt vs17 2), (nt vs17 3), (nt vs17 4)] h25 (l26 ++ l19))) fun j16 => fork v15
 (ob (rSl h11.get T_omap_pair_string_int 2 (nt vs10 0) none (some (nt vs10 1)) none) fun v51 =>
 ob (bI .add (nt vs10 4) (nt vs10 3)) fun v52 =>
 ob (bI .sub v52 (nt vs10 1)) fun v53 =>
 hv (rAppZ h11 T_omap_pair_string_int 2 24 [(.string ⟨#[]⟩), (.int .i64 0)] v51 v53) fun v54 h55 l56 =>
 ob (rSl h55.get T_omap_pair_string_int 2 v54 (some (nt vs10 1)) none none) fun v57 =>
 hv (rCopy h55 2 v57 (nt vs10 2)) fun v58 h59 l60 =>
 ob (bI .add (nt vs10 1) (nt vs10 3)) fun v61 =>
 ob (rSl h59.get T_omap_pair_string_int 2 v54 (some v61) none none) fun v62 =>
 ob (rSl h59.get T_omap_pair_string_int 2 (nt vs10 0) (some (nt vs10 1)) none none) fun v63 =>
 hv (rCopy h59 2 v62 v63) fun v64 h65 l66 =>
 dr [0, 0, 0, 6, 15, 0, 0, 96, 255] [mP h59, mP h59, mP h59, mP h59, mR h59 (rdS v54), mP h59, mP h59, mR h59 (rdS (nt vs10 0)), mH h59 (rdL [v62, v63]) l66 h65] fun l67 =>
 fin h (rsT v54 (some [])) h65 (l67 ++ (l60 ++ (l56 ++ l12))))
 (j16 [(nt vs10 0), (nt vs10 1), (nt vs10 2), (nt vs10 3), (nt vs10 4)] h11 l12)) fun j9 => fork v8
 (hv (rApp h5 T_omap_pair_string_int 2 24 [(.string ⟨#[]⟩), (.int .i64 0)] (nt vs4 0) (nt vs4 2)) fun v68 h69 l70 =>
 fin h (rsT v68 (some [])) h69 (l70 ++ l6))
 (j9 [(nt vs4 0), (nt vs4 1), (nt vs4 2), (nt vs4 3), v7] h5 l6)) fun j3 => fork v2
 (fin h (rsT x0 (some [])) h [])
 (j3 [x0, x1, x2, v1] h [])

-- 239 slices.Delete[[]asterism/omap.pair[string, int],asterism/omap.pair[string, int]]
noncomputable def F_k239 (call : CallF) (lp : LoopF) (x0 : Value) (x1 : Value) (x2 : Value) (h : H) : Option (Value × H × List Nat) :=
 ob (rLenL x0) fun v0 =>
 ob (rSl h.get T_omap_pair_string_int 2 x0 (some x1) (some x2) (some v0)) fun v1 =>
 ob (bI .eql x1 x2) fun v2 =>
 jn3 (fun vs4 h5 l6 =>
 ob (rLenL (nt vs4 0)) fun v7 =>
 ob (rSl h5.get T_omap_pair_string_int 2 (nt vs4 0) none (some (nt vs4 1)) none) fun v8 =>
 ob (rSl h5.get T_omap_pair_string_int 2 (nt vs4 0) (some (nt vs4 2)) none none) fun v9 =>
 hv (rApp h5 T_omap_pair_string_int 2 24 [(.string ⟨#[]⟩), (.int .i64 0)] v8 v9) fun v10 h11 l12 =>
 dr [0, 0, 3, 0, 0, 24, 63, 127] [mP h5, mP h5, mR h5 (rdS (nt vs4 0)), mP h5, mP h5, mR h5 (rdS (nt vs4 0)), mH h5 (rdL [v8, v9]) l12 h11, mP h11] fun l13 =>
 ob (rLenL v10) fun v14 =>
 ob (rSl h11.get T_omap_pair_string_int 2 v10 (some v14) (some v7) none) fun v15 =>
 hv (rClear h11 (tyO 2 24 [(.string ⟨#[]⟩), (.int .i64 0)]) v15) fun v16 h17 l18 =>
 fin h (rsT v10 (some [])) h17 (l18 ++ (l13 ++ l6))) fun j3 => fork v2
 (fin h (rsT x0 (some [])) h [])
 (j3 [x0, x1, x2] h [])

-- 243 asterism/asterismlaw11.begun
noncomputable def F_k243 (call : CallF) (lp : LoopF) (h : H) : Option (Value × H × List Nat) :=
 hv (call (.fn N_k253) [] h) fun v0 h1 l2 =>
 hv (call (.fn N_k90) [v0] h1) fun v3 h4 l5 =>
 ob (binV pgB.ty (tyD (.pointer 0)) .eql v3 (.pointer none)) fun v6 =>
 jn3 (fun vs8 h9 l10 =>
 hv (call (.fn N_k254) [(.int .i64 7), (.string ⟨#[120]⟩)] h9) fun v11 h12 l13 =>
 hv (call (.fn N_k109) [(nt vs8 0), v11] h12) fun v14 h15 l16 =>
 ob (rExtract 0 v14) fun v17 =>
 ob (rExtract 1 v14) fun v18 =>
 hv (call (.fn N_k254) [(.int .i64 8), (.string ⟨#[121]⟩)] h15) fun v19 h20 l21 =>
 hv (call (.fn N_k109) [(nt vs8 0), v19] h20) fun v22 h23 l24 =>
 ob (rExtract 0 v22) fun v25 =>
 ob (rExtract 1 v22) fun v26 =>
 hv (call (.fn N_k109) [(nt vs8 0), (.slice none 0 0)] h23) fun v27 h28 l29 =>
 ob (rExtract 0 v27) fun v30 =>
 ob (rExtract 1 v27) fun v31 =>
 hv (call (.fn N_k63) [(nt vs8 0), v17] h28) fun v32 h33 l34 =>
 ob (oBuild pgB T_api_Value [(0, (.int .i64 2)), (2, (.string ⟨#[122]⟩))]) fun v35 =>
 hv (call (.fn N_k112) [(nt vs8 0), v25, (.string ⟨#[122, 111, 110, 101]⟩), v35] h33) fun v36 h37 l38 =>
 hv (call (.fn N_k85) [(nt vs8 0), v25] h37) fun v39 h40 l41 =>
 ob (rExtract 0 v39) fun v42 =>
 ob (rExtract 1 v39) fun v43 =>
 hv (call (.fn N_k76) [(nt vs8 0), v25, (.string ⟨#[122, 111, 110, 101]⟩)] h40) fun v44 h45 l46 =>
 ob (rExtract 0 v44) fun v47 =>
 ob (rExtract 1 v44) fun v48 =>
 al (aNew h45.n T_api_Value [(.int .i64 0), (.int .i64 0), (.string ⟨#[]⟩)]) h45 fun v49 h50 =>
 hv (rStore h50 3 v49 v47) fun v51 h52 l53 =>
 hv (call (.fn N_k83) [(nt vs8 0)] h52) fun v54 h55 l56 =>
 ob (bI .eql v18 (.int .i64 0)) fun v57 =>
 gP (gd v57 true) (some v26) fun v58 =>
 gP (gd v57 true) (bI .eql v58 (.int .i64 0)) fun v59 =>
 ob (rPick v57 v59 (.bool false)) fun v60 =>
 gP (gd v60 true) (some v31) fun v61 =>
 gP (gd v60 true) (bI .eql v61 (.int .i64 1)) fun v62 =>
 ob (rPick v60 v62 (.bool false)) fun v63 =>
 gP (gd v63 true) (some v17) fun v64 =>
 gP (gd v63 true) (bI .eql v64 (.int .i64 0)) fun v65 =>
 ob (rPick v63 v65 (.bool false)) fun v66 =>
 gP (gd v66 true) (some v25) fun v67 =>
 gP (gd v66 true) (bI .eql v67 (.int .i64 1)) fun v68 =>
 ob (rPick v66 v68 (.bool false)) fun v69 =>
 gP (gd v69 true) (some v32) fun v70 =>
 ob (rPick v69 v70 (.bool false)) fun v71 =>
 gP (gd v71 true) (some v36) fun v72 =>
 gP (gd v71 true) (bI .eql v72 (.int .i64 0)) fun v73 =>
 ob (rPick v71 v73 (.bool false)) fun v74 =>
 gP (gd v74 true) (some v43) fun v75 =>
 ob (rPick v74 v75 (.bool false)) fun v76 =>
 gP (gd v76 true) (some v42) fun v77 =>
 gP (gd v76 true) (rLenL v77) fun v78 =>
 gP (gd v76 true) (bI .eql v78 (.int .i64 4)) fun v79 =>
 ob (rPick v76 v79 (.bool false)) fun v80 =>
 gP (gd v80 true) (rFld 2 v49) fun v81 =>
 gP (gd v80 true) (rLd1 h55.get v81) fun v82 =>
 gP (gd v80 true) (binV pgB.ty (tyD .string) .eql v82 (.string ⟨#[122]⟩)) fun v83 =>
 ob (rPick v80 v83 (.bool false)) fun v84 =>
 gP (gd v84 true) (some v48) fun v85 =>
 ob (rPick v84 v85 (.bool false)) fun v86 =>
 gP (gd v86 true) (some (nt vs8 0)) fun v87 =>
 hv (gV (gd v86 true) (call (.fn N_k21) [v87] h55) h55) fun v88 h89 l90 =>
 gP (gd v86 true) (bI .eql v88 (.int .i64 2)) fun v91 =>
 ob (rPick v86 v91 (.bool false)) fun v92 =>
 gP (gd v92 true) (some (nt vs8 0)) fun v93 =>
 hv (gV (gd v92 true) (call (.fn N_k32) [v93] h89) h89) fun v94 h95 l96 =>
 hv (gV (gd v92 true) (call (.fn N_k27) [v94] h95) h95) fun v97 h98 l99 =>
 gP (gd v92 true) (bI .eql v97 (.int .i64 1)) fun v100 =>
 ob (rPick v92 v100 (.bool false)) fun v101 =>
 gP (gd v101 true) (some (nt vs8 0)) fun v102 =>
 hv (gV (gd v101 true) (call (.fn N_k74) [v102, (.string ⟨#[99, 105, 116, 121]⟩)] h98) h98) fun v103 h104 l105 =>
 gP (gd v101 true) (bI .eql v103 (.int .i64 1)) fun v106 =>
 ob (rPick v101 v106 (.bool false)) fun v107 =>
 gP (gd v107 true) (some v54) fun v108 =>
 gP (gd v107 true) (binV pgB.ty (tyD (.pointer 0)) .neq v108 (.pointer none)) fun v109 =>
 ob (rPick v107 v109 (.bool false)) fun v110 =>
 gP (gd v110 true) (some v54) fun v111 =>
 hv (gV (gd v110 true) (call (.fn N_k21) [v111] h104) h104) fun v112 h113 l114 =>
 gP (gd v110 true) (bI .eql v112 (.int .i64 2)) fun v115 =>
 ob (rPick v110 v115 (.bool false)) fun v116 =>
 gP (gd v116 true) (some (nt vs8 0)) fun v117 =>
 hv (gV (gd v116 true) (call (.fn N_k73) [v117] h113) h113) fun v118 h119 l120 =>
 gP (gd v116 true) (rPart1 0 v118) fun v121 =>
 gP (gd v116 true) (binV pgB.ty (tyD .string) .eql v121 (.string ⟨#[115, 104, 111, 112]⟩)) fun v122 =>
 ob (rPick v116 v122 (.bool false)) fun v123 =>
 fin h (rsT v123 (some [])) h119 (l120 ++ (l114 ++ (l105 ++ (l99 ++ (l96 ++ (l90 ++ (l56 ++ (l53 ++ (l46 ++ (l41 ++ (l38 ++ (l34 ++ (l29 ++ (l24 ++ (l21 ++ (l16 ++ (l13 ++ l10)))))))))))))))))) fun j7 => fork v6
 (fin h (rsT (.bool false) (some [])) h4 (l5 ++ (l2 ++ [])))
 (j7 [v3, poison, poison, poison, poison, poison, poison, poison, poison, poison, poison, poison, poison, poison, poison, poison, poison, poison, poison, poison, poison, poison, poison, poison, poison, poison, poison, poison, poison, poison, poison, poison, poison, poison, poison, poison, poison, poison, poison] h4 (l5 ++ (l2 ++ [])))

-- 244 slices.Index[[]string,string]
noncomputable def F_k244_L58 (call : CallF) (lp : LoopF) : List Value → H → Option LOut := fun vs5 h6 =>
 ob (bI .lss (nt vs5 4) (nt vs5 3)) fun v7 =>
 jn3 (fun vs9 h10 l11 =>
 jn3 (fun vs13 h14 l15 =>
 ob (bI .add (nt vs13 4) (.int .i64 1)) fun v16 =>
 some ⟨.normal, [(nt vs13 0), (nt vs13 1), (nt vs13 2), (nt vs13 3), v16], h14, l15⟩) fun j12 =>
 ob (rIdxS 1 (nt vs9 0) (nt vs9 4)) fun v17 =>
 ob (rLd1 h10.get v17) fun v18 =>
 ob (binV pgB.ty (tyD .string) .eql (nt vs9 1) v18) fun v19 =>
 jn3 (fun vs21 h22 l23 =>
 j12 [(nt vs21 0), (nt vs21 1), (nt vs21 2), (nt vs21 3), (nt vs21 4)] h22 l23) fun j20 => fork v19
 (some ⟨.ret, [(nt vs9 0), (nt vs9 1), (nt vs9 4), (nt vs9 3), (nt vs9 4)], h10, l11⟩)
 (j20 [(nt vs9 0), (nt vs9 1), (nt vs9 2), (nt vs9 3), (nt vs9 4)] h10 l11)) fun j8 => fork v7
 (j8 [(nt vs5 0), (nt vs5 1), (nt vs5 2), (nt vs5 3), (nt vs5 4)] h6 [])
 (some ⟨(.exit 0), [(nt vs5 0), (nt vs5 1), (nt vs5 2), (nt vs5 3), (nt vs5 4)], h6, []⟩)
noncomputable def F_k244 (call : CallF) (lp : LoopF) (x0 : Value) (x1 : Value) (h : H) : Option (Value × H × List Nat) :=
 ob (rLenL x0) fun v0 =>
 jn3 (fun vs2 h3 l4 =>
 fin h (rsT (.int .i64 (-1)) (some [])) h3 l4) fun j1 =>
 ob (lp (F_k244_L58 call lp) [x0, x1, (.int .i64 0), v0, (.int .i64 0)] h) fun o24 =>
 onEx o24.ex (j1 [] o24.h (o24.lg ++ [])) (fun i25 => bif Nat.beq i25 0 then j1 [] o24.h (o24.lg ++ []) else none) (fin h (rsT (nt o24.vs 2) (some [])) o24.h (o24.lg ++ []))

-- 245 slices.IndexFunc[[]string,string]
noncomputable def F_k245_L58 (call : CallF) (lp : LoopF) : List Value → H → Option LOut := fun vs5 h6 =>
 ob (bI .lss (nt vs5 4) (nt vs5 3)) fun v7 =>
 jn3 (fun vs9 h10 l11 =>
 jn3 (fun vs13 h14 l15 =>
 ob (bI .add (nt vs13 4) (.int .i64 1)) fun v16 =>
 some ⟨.normal, [(nt vs13 0), (nt vs13 1), (nt vs13 2), (nt vs13 3), v16], h14, l15⟩) fun j12 =>
 ob (rIdxS 1 (nt vs9 0) (nt vs9 4)) fun v17 =>
 ob (rLd1 h10.get v17) fun v18 =>
 hv (callV call h10 (nt vs9 1) [v18]) fun v19 h20 l21 =>
 jn3 (fun vs23 h24 l25 =>
 j12 [(nt vs23 0), (nt vs23 1), (nt vs23 2), (nt vs23 3), (nt vs23 4)] h24 l25) fun j22 => fork v19
 (some ⟨.ret, [(nt vs9 0), (nt vs9 1), (nt vs9 4), (nt vs9 3), (nt vs9 4)], h20, (l21 ++ l11)⟩)
 (j22 [(nt vs9 0), (nt vs9 1), (nt vs9 2), (nt vs9 3), (nt vs9 4)] h20 (l21 ++ l11))) fun j8 => fork v7
 (j8 [(nt vs5 0), (nt vs5 1), (nt vs5 2), (nt vs5 3), (nt vs5 4)] h6 [])
 (some ⟨(.exit 0), [(nt vs5 0), (nt vs5 1), (nt vs5 2), (nt vs5 3), (nt vs5 4)], h6, []⟩)
noncomputable def F_k245 (call : CallF) (lp : LoopF) (x0 : Value) (x1 : Value) (h : H) : Option (Value × H × List Nat) :=
 ob (rLenL x0) fun v0 =>
 jn3 (fun vs2 h3 l4 =>
 fin h (rsT (.int .i64 (-1)) (some [])) h3 l4) fun j1 =>
 ob (lp (F_k245_L58 call lp) [x0, x1, (.int .i64 0), v0, (.int .i64 0)] h) fun o26 =>
 onEx o26.ex (j1 [] o26.h (o26.lg ++ [])) (fun i27 => bif Nat.beq i27 0 then j1 [] o26.h (o26.lg ++ []) else none) (fin h (rsT (nt o26.vs 2) (some [])) o26.h (o26.lg ++ []))

-- 247 internal/bytealg.CompareString
noncomputable def F_k247 (call : CallF) (lp : LoopF) (x0 : Value) (x1 : Value) (h : H) : Option (Value × H × List Nat) :=
 hv (call (.fn N_k255) [x0, x1] h) fun v0 h1 l2 =>
 fin h (rsT v0 (some [])) h1 (l2 ++ [])

-- 248 slices.BinarySearchFunc[[]asterism/omap.pair[string, int],asterism/omap.pair[string, int],string]
noncomputable def F_k248_L124 (call : CallF) (lp : LoopF) : List Value → H → Option LOut := fun vs17 h18 =>
 ob (bI .lss (nt vs17 6) (nt vs17 7)) fun v19 =>
 jn3 (fun vs21 h22 l23 =>
 jn3 (fun vs25 h26 l27 =>
 some ⟨.normal, [(nt vs25 0), (nt vs25 1), (nt vs25 2), (nt vs25 3), (nt vs25 4), (nt vs25 5), (nt vs25 6), (nt vs25 7), (nt vs25 8), (nt vs25 9), (nt vs25 10), (nt vs25 11), (nt vs25 12), (nt vs25 13), (nt vs25 14), (nt vs25 15)], h26, l27⟩) fun j24 =>
 ob (bI .add (nt vs21 6) (nt vs21 7)) fun v28 =>
 ob (rCvI .u64 v28) fun v29 =>
 ob (binV pgB.ty (tyD (.int .u64)) .shr v29 (.int .u64 1)) fun v30 =>
 ob (rCvI .i64 v30) fun v31 =>
 ob (rIdxS 2 (nt vs21 0) v31) fun v32 =>
 ob (rLdA h22.get 2 v32) fun v33 =>
 hv (callV call h22 (nt vs21 2) [v33, (nt vs21 1)]) fun v34 h35 l36 =>
 ob (bI .lss v34 (.int .i64 0)) fun v37 =>
 jn3 (fun vs39 h40 l41 =>
 j24 [(nt vs39 0), (nt vs39 1), (nt vs39 2), (nt vs39 3), (nt vs39 4), (nt vs39 5), (nt vs39 6), (nt vs39 7), (nt vs39 8), (nt vs39 9), (nt vs39 10), (nt vs39 11), (nt vs39 12), (nt vs39 13), (nt vs39 14), (nt vs39 15)] h40 l41) fun j38 => fork v37
 (ob (bI .add v31 (.int .i64 1)) fun v42 =>
 j38 [(nt vs21 0), (nt vs21 1), (nt vs21 2), (nt vs21 3), (nt vs21 4), (nt vs21 5), v42, (nt vs21 7), (nt vs21 8), (nt vs21 9), (nt vs21 10), (nt vs21 11), (nt vs21 12), (nt vs21 13), (nt vs21 14), (nt vs21 15)] h35 (l36 ++ l23))
 (j38 [(nt vs21 0), (nt vs21 1), (nt vs21 2), (nt vs21 3), (nt vs21 4), (nt vs21 5), (nt vs21 6), v31, (nt vs21 8), (nt vs21 9), (nt vs21 10), (nt vs21 11), (nt vs21 12), (nt vs21 13), (nt vs21 14), (nt vs21 15)] h35 (l36 ++ l23))) fun j20 => fork v19
 (j20 [(nt vs17 0), (nt vs17 1), (nt vs17 2), (nt vs17 3), (nt vs17 4), (nt vs17 5), (nt vs17 6), (nt vs17 7), (nt vs17 8), (nt vs17 9), (nt vs17 10), (nt vs17 11), (nt vs17 12), (nt vs17 13), (nt vs17 14), (nt vs17 15)] h18 [])
 (some ⟨(.exit 0), [(nt vs17 0), (nt vs17 1), (nt vs17 2), (nt vs17 3), (nt vs17 4), (nt vs17 5), (nt vs17 6), (nt vs17 7), (nt vs17 8), (nt vs17 9), (nt vs17 10), (nt vs17 11), (nt vs17 12), (nt vs17 13), (nt vs17 14), (nt vs17 15)], h18, []⟩)
noncomputable def F_k248 (call : CallF) (lp : LoopF) (x0 : Value) (x1 : Value) (x2 : Value) (h : H) : Option (Value × H × List Nat) :=
 ob (rLenL x0) fun v0 =>
 jn3 (fun vs2 h3 l4 =>
 ob (bI .lss (nt vs2 4) (nt vs2 3)) fun v5 =>
 gP (gd v5 true) (some (nt vs2 2)) fun v6 =>
 gP (gd v5 true) (some (nt vs2 0)) fun v7 =>
 gP (gd v5 true) (some (nt vs2 4)) fun v8 =>
 gP (gd v5 true) (rIdxS 2 v7 v8) fun v9 =>
 gP (gd v5 true) (rLdA h3.get 2 v9) fun v10 =>
 gP (gd v5 true) (some (nt vs2 1)) fun v11 =>
 hv (gV (gd v5 true) (callV call h3 v6 [v10, v11]) h3) fun v12 h13 l14 =>
 gP (gd v5 true) (bI .eql v12 (.int .i64 0)) fun v15 =>
 ob (rPick v5 v15 (.bool false)) fun v16 =>
 fin h (rsT (nt vs2 4) (rsT v16 (some []))) h13 (l14 ++ l4)) fun j1 =>
 ob (lp (F_k248_L124 call lp) [x0, x1, x2, (.int .i64 0), (.bool false), v0, (.int .i64 0), v0, poison, poison, poison, poison, poison, poison, poison, poison] h) fun o43 =>
 onEx o43.ex (j1 [(nt o43.vs 0), (nt o43.vs 1), (nt o43.vs 2), (nt o43.vs 5), (nt o43.vs 6), (nt o43.vs 8), (nt o43.vs 9), (nt o43.vs 10), (nt o43.vs 11), (nt o43.vs 12), (nt o43.vs 13), (nt o43.vs 14), (nt o43.vs 15)] o43.h (o43.lg ++ [])) (fun i44 => bif Nat.beq i44 0 then j1 [(nt o43.vs 0), (nt o43.vs 1), (nt o43.vs 2), (nt o43.vs 5), (nt o43.vs 6), (nt o43.vs 8), (nt o43.vs 9), (nt o43.vs 10), (nt o43.vs 11), (nt o43.vs 12), (nt o43.vs 13), (nt o43.vs 14), (nt o43.vs 15)] o43.h (o43.lg ++ []) else none) (fin h (rsT (nt o43.vs 3) (rsT (nt o43.vs 4) (some []))) o43.h (o43.lg ++ []))

-- 249 (*asterism/omap.Map[string, int]).find$1
noncomputable def F_k249 (call : CallF) (lp : LoopF) (x0 : Value) (x1 : Value) (x2 : Value) (h : H) : Option (Value × H × List Nat) :=
 al (aBx h.n T_omap_pair_string_int 2 x0) h fun v0 h1 =>
 ob (rLd1 h1.get x2) fun v2 =>
 ob (rNil v2) fun v3 =>
 ob (rFld 0 v3) fun v4 =>
 ob (rLd1 h1.get v4) fun v5 =>
 ob (rFld 0 v0) fun v6 =>
 ob (rLd1 h1.get v6) fun v7 =>
 hv (callV call h1 v5 [v7, x1]) fun v8 h9 l10 =>
 dr [0, 1, 3, 7, 0, 16, 0, 127, 255] [mR h1 (rdP x2), mP h1, mP h1, mR h1 (rdP v4), mP h1, mR h1 (rdP v6), mP h1, mH h1 (rdL [v7, x1]) l10 h9, mP h9] fun l11 =>
 fin h (rsT v8 (some [])) h9 (l11 ++ [])

-- 253 asterism/asterismlaw11.shop
noncomputable def F_k253 (call : CallF) (lp : LoopF) (h : H) : Option (Value × H × List Nat) :=
 al (aNew h.n T_api_Table [(.string ⟨#[]⟩), (.slice none 0 0), (.string ⟨#[]⟩), (.slice none 0 0)]) h fun v0 h1 =>
 hv (call (.fn N_k47) [] h1) fun v2 h3 l4 =>
 ob (rIdxS 4 v2 (.int .i64 1)) fun v5 =>
 ob (rLdA h3.get 4 v5) fun v6 =>
 hv (call (.fn N_k92) [v6] h3) fun v7 h8 l9 =>
 hv (rStore h8 4 v0 v7) fun v10 h11 l12 =>
 fin h (rsK (rLdA h11.get 4 v0) (some [])) h11 (l12 ++ (l9 ++ (l4 ++ [])))

-- 254 asterism/asterismlaw11.row
noncomputable def F_k254 (call : CallF) (lp : LoopF) (x0 : Value) (x1 : Value) (h : H) : Option (Value × H × List Nat) :=
 ob (oBuild pgB T_api_Value [(0, (.int .i64 1)), (1, x0)]) fun v0 =>
 ob (oBuild pgB T_api_Value [(0, (.int .i64 2)), (2, x1)]) fun v1 =>
 ob (oBuild pgB T_api_Value []) fun v2 =>
 ob (oBuild pgB T_api_Value []) fun v3 =>
 al (aBuildS pgB h.n T_Lapi_Value 4 [(0, v0), (1, v1), (2, v2), (3, v3)]) h fun v4 h5 =>
 fin h (rsT v4 (some [])) h5 []

end Go.L1
