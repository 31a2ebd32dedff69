/- Joined: O6, O7, O8, O9, O11, O12, O13, O14, O15, O17, O18, O19, O20, O21, O22, RP26, RP26b, O26, O27, O28. -/
import Derived.Test.YteogfjpaljbkoaaGreatKH5
import Derived.Test.YteogfjpaljbkoaaGreatKH3
set_option linter.unusedVariables false
set_option linter.unusedSimpArgs false
set_option maxRecDepth 100000
set_option maxHeartbeats 16000000
namespace Go.Proofs.YteogfjpaljbkoaaGreat
open Go.RowKit
section
open Go.Proofs.Tryz (prog)
def comOne (m n:List (Prefix × Attrs)) (p:Prefix):Option (Prefix × Attrs):=(getE n p).bind fun a=>if getE m p=some a then none else some (p,a)
def comKs (K:List Prefix) (m n:List (Prefix × Attrs)):List (Prefix × Attrs):=K.filterMap (comOne m n)
theorem comKs_succ {K:List Prefix} {m n:List (Prefix × Attrs)} {i:Nat} (h:i < K.length):comKs (K.take (i + 1)) m n=comKs (K.take i) m n ++ (comOne m n K[i]).toList:=by
 unfold comKs
 rw[List.take_succ_eq_append_getElem h,List.filterMap_append]
 cases ho:comOne m n K[i]<;>simp[ho]
theorem comU_snoc (l:List (Prefix × Attrs)) (e:Prefix × Attrs):comU (l ++ [e])=comS (comU l) e:=by
 unfold comU
 rw[List.foldl_append]
 rfl
theorem new_getD (out:List (List Prefix × Attrs)) (k:Nat):(newU out).getD k noUp=⟨[],(out.getD k noX).1,(out.getD k noX).2⟩:=by
 simp only[newU,List.getD_eq_getElem?_getD,List.getElem?_map]
 cases out[k]?<;>rfl
theorem new_len (out:List (List Prefix × Attrs)):(newU out).length=out.length:=by simp[newU]
theorem new_at (out:List (List Prefix × Attrs)) (k:Nat) (h:k < (newU out).length):(newU out)[k]=⟨[],(out[k]'(by rw[new_len]at h;exact h)).1,(out[k]'(by rw[new_len]at h;exact h)).2⟩:=by simp[newU]
theorem fitN_eq {out:List (List Prefix × Attrs)} {k:Nat} (h:k < out.length) (p:Prefix):fitU moreN (newU out) k p=decide (checkU ⟨[],out[k].1 ++ [p],out[k].2⟩=0):=by
 unfold fitU
 rw[new_getD,show out.getD k noX=out[k]by simp[h]]
 rfl
def NoF (out:List (List Prefix × Attrs)) (e:Prefix × Attrs) (k:Nat):Prop:=∀(j:Nat) (h:j < out.length),j < k→comF e.1 e.2 out[j]=false
theorem comS_hit {out:List (List Prefix × Attrs)} {e:Prefix × Attrs} {k:Nat} (h:k < out.length) (hn:NoF out e k) (hs:out[k].2=e.2) (hf:fitU moreN (newU out) k e.1=true) :
  putU moreN (newU out) k e.1=newU (comS out e)∧(comS out e).length=out.length:=by
 have hf':=hf
 rw[fitN_eq h,decide_eq_true_eq,hs]at hf
 have hi:out.findIdx (comF e.1 e.2)=k:=by
  rw[List.findIdx_eq h]
  exact⟨by simp[comF,hs,hf],fun j hj=>hn j (by omega) hj⟩
 rw[putU,if_pos hf',new_getD,comS,hi,if_pos h]
 refine⟨?_,by simp⟩
 simp only[newU,moreN,List.map_set]
 congr 2
 rw[show out.getD k noX=out[k]by simp[h],hs]
theorem comS_miss {out:List (List Prefix × Attrs)} {e:Prefix × Attrs} (hn:NoF out e out.length):comS out e=out ++ [([e.1],e.2)]:=by
 rw[comS,if_neg]
 intro h
 have h1:=List.findIdx_getElem (p:=comF e.1 e.2) (w:=h)
 rw[hn _ h h]at h1
 cases h1
theorem NoF.step {out:List (List Prefix × Attrs)} {e:Prefix × Attrs} {k:Nat} (hn:NoF out e k) (hk:k < out.length) (hc:comF e.1 e.2 out[k]=false):NoF out e (k + 1):=fun j hj hlt=>by
 rcases Nat.lt_or_ge j k with h|h
 ·exact hn j hj h
 ·obtain rfl:j=k:=by omega
  exact hc
attribute [local irreducible] CallV RoundV aggK
theorem comes_ok (m n:List (Prefix × Attrs)) (hm:m.length≤1000) (hn:n.length≤1000) (hr:∀e∈n,rightA e.2=true) :
  OCon prog 47 [.imap false (esA m),.imap false (esA n)] true false 86 10 (newU (comU (comKs (sortPs (keysE n)) m n))).length (rowsUt (newU (comU (comKs (sortPs (keysE n)) m n)))):=by
 have hso:=sortedO_ok n hn
 have hKl:(sortPs (keysE n)).length≤1000:=by rw[sortPs_len,keysE_len];exact hn
 have hKk:∀q∈sortPs (keysE n),q∈keysE n:=fun q=>mem_sortPs.1
 generalize sortPs (keysE n)=K at hso hKl hKk ⊢
 refine callV_of (fn:=Go.Proofs.Tryz.f47) (body:=_) tab_ok mixed rfl rfl (by decide) (by simp[Go.Proofs.Tryz.f47]) ?_
 conv=>whnf
 refine callV_pure hso ⟨.fr rfl,trivial⟩ ?_
 conv=>whnf
 intro hgl
 have hgl:K.length≤maxLen:=by simpa[gd]using hgl
 conv=>whnf
 refine vcg_loop tab_ok mixed (fun i:{i:Nat // i≤K.length}=>⟨[(0,.imap false (esA m)),(1,.imap false (esA n)),(4,.osl 0 10 0 (newU (comU (comKs (K.take i.1) m n))).length),(13,encPs true K),(14,cI K.length),(15,cI i.1)],[(0,arrU (newU (comU (comKs (K.take i.1) m n))))],1⟩) (fun i=>K.length - i.1) ⟨0,by omega⟩ (Wk.i (by repeat' (first|exact LHa|exact .int_of (by simp)|exact .A|exact LeL.fr rfl|exact LHb|refine Or.inl ⟨by simp,_,rfl,?_⟩|exact Or.inr ⟨by simp,_,_,_,_,rfl⟩|refine⟨rfl,rfl,rfl,rfl,rfl,rfl,?_⟩|refine⟨?_,?_⟩)) (by omega)) (fun i=>?_)
 obtain⟨i,hi⟩:=i
 conv=>whnf
 split
 ·rename_i hc
  have hc:i < K.length:=by simpa using hc
  have hcr:∀e∈comKs (K.take i) m n,rightA e.2=true:=by
   intro e he
   obtain⟨q,_,hq⟩:=List.mem_filterMap.1 he
   simp only[comOne,Option.bind_eq_some_iff]at hq
   obtain⟨a,ha,hq⟩:=hq
   split at hq
   ·cases hq
   ·cases hq;exact hr _ (getE_mem ha)
  have hI:=comU_I hcr
  have hL:(comKs (K.take i) m n).length≤1000:=Nat.le_trans (List.length_filterMap_le _ _) (by rw[List.length_take];omega)
  have hI:ComI 1000 (comU (comKs (K.take i) m n)):=hI.more hL
  have hs:=comKs_succ (m:=m) (n:=n) hc
  have hcu:=comU_snoc (comKs (K.take i) m n)
  clear hcr hL
  generalize hout:comU (comKs (K.take i) m n)=out at *
  obtain⟨a,hga⟩:=key_getE (hKk _ (List.getElem_mem hc))
  have hra:rightA a=true:=hr _ (getE_mem hga)
  have hsa:=right_sf hra
  conv=>whnf
  refine ixK (idxP hc) ?_
  conv=>whnf
  refine⟨esA_keys _,keyP _,some (encA false a),look_some hga,?_⟩
  conv=>whnf
  cases hgw:getE m K[i]with
  | some b=>
   have sab:=same_ok false false b a
   refine⟨esA_keys _,keyP _,some (encA false b),look_some hgw,?_⟩
   conv=>whnf
   refine callV_pure sab ⟨.fr rfl,.fr rfl,trivial⟩ ?_
   cases hsab:sameA b a with
   | true=>
    have hba:b=a:=by simpa[sameA]using hsab
    have hs2:comU (comKs (K.take (i + 1)) m n)=out:=by
     rw[hs,comOne,hga,Option.bind_some,if_pos (by rw[hgw,hba]),Option.toList_none,List.append_nil];exact hout
    conv=>whnf
    exact⟨⟨i + 1,by omega⟩,(Wk.i (by repeat' (first|exact LHa|exact .int_of (wrap64_succ hc hgl)|exact .osl_of rfl (by omega) (by simp only[hs2])|exact LeB.fr (by simp only[hs2]) id id|exact .A|exact LeL.fr rfl|exact LHb|refine Or.inl ⟨by simp,_,rfl,?_⟩|exact Or.inr ⟨by simp,_,_,_,_,rfl⟩|refine⟨rfl,rfl,rfl,rfl,rfl,rfl,?_⟩|refine⟨?_,?_⟩)) (by omega)),by simp only;omega⟩
   | false=>
   have hba:b ≠ a:=by simpa[sameA]using hsab
   have hs2:comU (comKs (K.take (i + 1)) m n)=comS out (K[i],a):=by
    rw[hs,comOne,hga,Option.bind_some,if_neg (by rw[hgw];simpa using hba),Option.toList_some,hcu]
   conv=>whnf
   intro hgo
   conv=>whnf
   refine vcg_loop tab_ok mixed (fun k:{k:Nat // k≤out.length∧NoF out (K[i],a) k}=>⟨[(0,.imap false (esA m)),(1,.imap false (esA n)),(4,.osl 0 10 0 (newU out).length),(6,.ptr 1 0),(7,.ptr 2 0),(10,.fn (.func 93) [] [.ptr 1 0]),(13,encPs true K),(14,cI K.length),(15,cI i),(36,cI (newU out).length),(37,cI k.1)],[(0,arrU (newU out)),(1,varP K[i]),(2,some (.var true 35 (cellsA false a)))],3⟩) (fun k=>out.length - k.1) ⟨0,by omega,fun j _ h=>by omega⟩ (Wk.i (by repeat' (first|exact LHa|exact .int_of rfl|exact .fnL trivial ⟨.ptr rfl (by omega),trivial⟩|exact .A|exact LeL.fr rfl|exact LHb|refine Or.inl ⟨by simp,_,rfl,?_⟩|exact Or.inr ⟨by simp,_,_,_,_,rfl⟩|refine⟨rfl,rfl,rfl,rfl,rfl,rfl,?_⟩|refine⟨?_,?_⟩)) (by omega)) (fun k=>?_)
   obtain⟨k,hk,hno⟩:=k
   conv=>whnf
   split
   ·rename_i hck
    have hck:k < out.length:=by simpa[new_len]using hck
    have hkn:k < (newU out).length:=by rw[new_len];exact hck
    have e1:(newU out)[k].attrs=out[k].2:=by rw[new_at]
    have e2:(newU out)[k].gone=[]:=by rw[new_at]
    have e3:(newU out)[k].new=out[k].1:=by rw[new_at]
    have hfr:=hI.few _ (List.getElem_mem hck)
    have hrr:=right_sf (hI.right _ (List.getElem_mem hck))
    have sak:=same_ok true false (newU out)[k].attrs a
    have hf:=fitN_ok (newU out) k hkn K[i] (by rw[e2];simp) (by rw[e3];omega) (by rw[e1];exact hrr)
    unfold FitC at hf
    conv=>whnf
    refine⟨rfl,⟨by simp only;omega,by simp only;omega⟩,?_⟩
    conv=>whnf
    rw[show 0 + ((k:Nat):Int).toNat=k by simp]
    refine⟨rfl,_,idxUt hkn,?_⟩
    conv=>whnf
    refine⟨_,[],fun h nx _=>pureV_pure sak ⟨.fr rfl,.fr rfl,trivial⟩,by simp,?_⟩
    cases hsm:sameA (newU out)[k].attrs a with
    | false=>
     have hcf:comF K[i] a out[k]=false:=by
      rw[e1]at hsm
      simp only[sameA,decide_eq_false_iff_not]at hsm
      simp[comF,hsm]
     conv=>whnf
     refine⟨by kernel_rfl,?_⟩
     conv=>whnf
     exact⟨⟨k + 1,by omega,hno.step hck hcf⟩,(Wk.i (by repeat' (first|exact LHa|exact .int_of (wrap64_succ hck (by have:=hI.len;simp only[maxLen];omega))|exact .fnL trivial ⟨.ptr rfl (by omega),trivial⟩|exact .A|exact LeL.fr rfl|exact LHb|refine Or.inl ⟨by simp,_,rfl,?_⟩|exact Or.inr ⟨by simp,_,_,_,_,rfl⟩|refine⟨rfl,rfl,rfl,rfl,rfl,rfl,?_⟩|refine⟨?_,?_⟩)) (by omega)),by simp only;omega⟩
    | true=>
     have hsm':out[k].2=a:=by
      rw[e1]at hsm
      simpa[sameA]using hsm
     conv=>whnf
     refine⟨rfl,⟨by simp only;omega,by simp only;omega⟩,?_⟩
     conv=>whnf
     refine⟨by kernel_rfl,?_⟩
     conv=>whnf
     rw[show 0 + ((k:Nat):Int).toNat=k by simp]
     refine callV_frame (nx:=3) (n0:=2) (renOf [(0,0),(1,1)]) (hf) (by repeat' (first|exact True.intro|exact .eptr rfl (by omega)|exact .fnL trivial ⟨.ptr rfl (by omega),trivial⟩|exact .A|exact LeL.fr rfl|refine⟨?_,?_⟩)) (LeH.of (by repeat' (first|exact LHa|exact .eptr rfl (by omega)|exact .fnL trivial ⟨.ptr rfl (by omega),trivial⟩|exact .A|exact LeL.fr rfl|exact LHb|refine Or.inl ⟨by simp,_,rfl,?_⟩|exact Or.inr ⟨by simp,_,_,_,_,rfl⟩|refine⟨rfl,rfl,rfl,rfl,rfl,rfl,?_⟩|refine⟨?_,?_⟩)) (show ∀b∈([0,1]:List Nat),∀b'∈([0,1]:List Nat),(renOf [(0,0),(1,1)]) b=(renOf [(0,0),(1,1)]) b'→b=b' by decide) (fun _ h=>by omega) (by omega) (by simp)) (fun b hb=>by match b,hb with|0,_=>exact ne_none_of rfl|1,_=>exact ne_none_of rfl) (by decide) ?_
     rintro v h' nx' ⟨rfl,rfl,rfl⟩ _
     refine⟨.bool (fitU moreN (newU out) k K[i]),[(0,arrU (putU moreN (newU out) k K[i])),(1,varP K[i]),(2,some (.var true 35 (cellsA false a)))],.free .bool,(by repeat' (first|exact True.intro|exact Or.inr ⟨by decide,rfl⟩|exact Or.inl ⟨0,rfl,by omega,_,rfl,.arr (rowsUt_free _)⟩|exact Or.inl ⟨1,rfl,by omega,_,rfl,.var (cellsP_free _)⟩|refine⟨?_,?_⟩)),?_⟩
     cases hfb:fitU moreN (newU out) k K[i]with
     | true=>
      obtain⟨hp1,hp2⟩:=comS_hit (e:=(K[i],a)) hck hno hsm' hfb
      rw[hp1]
      conv=>whnf
      exact⟨⟨i + 1,by omega⟩,(Wk.i (by repeat' (first|exact LHa|exact .int_of (wrap64_succ hc hgl)|exact .osl_of rfl (by omega) (by simp only[hs2,new_len,hp2])|exact LeB.fr (by simp only[hs2]) id id|exact .A|exact LeL.fr rfl|exact LHb|refine Or.inl ⟨by simp,_,rfl,?_⟩|exact Or.inr ⟨by simp,_,_,_,_,rfl⟩|refine⟨rfl,rfl,rfl,rfl,rfl,rfl,?_⟩|refine⟨?_,?_⟩)) (by omega)),by simp only;omega⟩
     | false=>
      have hcf:comF K[i] a out[k]=false:=by
       rw[fitN_eq hck,decide_eq_false_iff_not,hsm']at hfb
       simp[comF,hsm',hfb]
      rw[show putU moreN (newU out) k K[i]=newU out by rw[putU,hfb];rfl]
      conv=>whnf
      exact⟨⟨k + 1,by omega,hno.step hck hcf⟩,(Wk.i (by repeat' (first|exact LHa|exact .int_of (wrap64_succ hck (by have:=hI.len;simp only[maxLen];omega))|exact .fnL trivial ⟨.ptr rfl (by omega),trivial⟩|exact .A|exact LeL.fr rfl|exact LHb|refine Or.inl ⟨by simp,_,rfl,?_⟩|exact Or.inr ⟨by simp,_,_,_,_,rfl⟩|refine⟨rfl,rfl,rfl,rfl,rfl,rfl,?_⟩|refine⟨?_,?_⟩)) (by omega)),by simp only;omega⟩
   rename_i hck
   have hck:k=out.length:=by simp[new_len]at hck;omega
   subst hck
   have hn1:=comS_miss hno
   have hcp:=copy_pure false a hsa.1.1 hsa.1.2.1 hsa.1.2.2
   conv=>whnf
   refine⟨_,[],fun h nx _=>pureV_pure hcp ⟨.fr rfl,trivial⟩,by simp,?_⟩
   conv=>whnf
   refine⟨rfl,by simp,?_⟩
   conv=>whnf
   refine⟨⟨rfl,rfl,rfl,rfl,by decide⟩,by simp,⟨by simp[tab,tabOf,nth,new_len];have:=hI.len;omega,by simp[new_len];have:=hI.len;omega⟩,?_⟩
   conv=>whnf
   refine⟨by kernel_rfl,?_⟩
   conv=>whnf
   exact⟨⟨i + 1,by omega⟩,(Wk.all (renOf [(0,5)]) [3] (by repeat' (first|exact LHa|exact .int_of (wrap64_succ hc hgl)|exact .osl_of rfl (by omega) (by simp only[hs2,hn1];simp[newU])|exact Or.inl ⟨by decide,_,rfl,id,id,rfl,rfl,LeR.out (LeR.of_eq' (LeR.app (LeR.of_eq (List.take_of_length_le (by simp)) (.free (rowsUt_free (newU out)))) (ys':=rowsUt [⟨[],[K[i]],a⟩]) ⟨⟨.snil_sl,.freezeE (by simp) rfl (by simp) rfl (rowsP_free _),.fr rfl,.fr rfl,.fr rfl,.fr rfl,.fr rfl,.fr rfl,.fr rfl,.fr rfl,trivial⟩,trivial⟩) (by simp only[hs2,hn1];simp[newU]))⟩|exact .A|exact LeL.fr rfl|exact LHb|refine Or.inl ⟨by simp,_,rfl,?_⟩|exact Or.inr ⟨by simp,_,_,_,_,rfl⟩|refine⟨rfl,rfl,rfl,rfl,rfl,rfl,?_⟩|refine⟨?_,?_⟩)) (show ∀b∈([0]:List Nat),∀b'∈([0]:List Nat),(renOf [(0,5)]) b=(renOf [(0,5)]) b'→b=b' by decide) (fun _ h=>by omega) (by omega) (by intro z hz;simp only[List.mem_cons,List.not_mem_nil,or_false]at hz;rcases hz with rfl<;>exact ne_none_of rfl)),by simp only;omega⟩
  | none=>
   have hs2:comU (comKs (K.take (i + 1)) m n)=comS out (K[i],a):=by
    rw[hs,comOne,hga,Option.bind_some,if_neg (by rw[hgw];simp),Option.toList_some,hcu]
   refine⟨esA_keys _,keyP _,none,look_none hgw,?_⟩
   conv=>whnf
   intro hgo
   conv=>whnf
   refine vcg_loop tab_ok mixed (fun k:{k:Nat // k≤out.length∧NoF out (K[i],a) k}=>⟨[(0,.imap false (esA m)),(1,.imap false (esA n)),(4,.osl 0 10 0 (newU out).length),(6,.ptr 1 0),(7,.ptr 2 0),(10,.fn (.func 93) [] [.ptr 1 0]),(13,encPs true K),(14,cI K.length),(15,cI i),(36,cI (newU out).length),(37,cI k.1)],[(0,arrU (newU out)),(1,varP K[i]),(2,some (.var true 35 (cellsA false a)))],3⟩) (fun k=>out.length - k.1) ⟨0,by omega,fun j _ h=>by omega⟩ (Wk.i (by repeat' (first|exact LHa|exact .int_of rfl|exact .fnL trivial ⟨.ptr rfl (by omega),trivial⟩|exact .A|exact LeL.fr rfl|exact LHb|refine Or.inl ⟨by simp,_,rfl,?_⟩|exact Or.inr ⟨by simp,_,_,_,_,rfl⟩|refine⟨rfl,rfl,rfl,rfl,rfl,rfl,?_⟩|refine⟨?_,?_⟩)) (by omega)) (fun k=>?_)
   obtain⟨k,hk,hno⟩:=k
   conv=>whnf
   split
   ·rename_i hck
    have hck:k < out.length:=by simpa[new_len]using hck
    have hkn:k < (newU out).length:=by rw[new_len];exact hck
    have e1:(newU out)[k].attrs=out[k].2:=by rw[new_at]
    have e2:(newU out)[k].gone=[]:=by rw[new_at]
    have e3:(newU out)[k].new=out[k].1:=by rw[new_at]
    have hfr:=hI.few _ (List.getElem_mem hck)
    have hrr:=right_sf (hI.right _ (List.getElem_mem hck))
    have sak:=same_ok true false (newU out)[k].attrs a
    have hf:=fitN_ok (newU out) k hkn K[i] (by rw[e2];simp) (by rw[e3];omega) (by rw[e1];exact hrr)
    unfold FitC at hf
    conv=>whnf
    refine⟨rfl,⟨by simp only;omega,by simp only;omega⟩,?_⟩
    conv=>whnf
    rw[show 0 + ((k:Nat):Int).toNat=k by simp]
    refine⟨rfl,_,idxUt hkn,?_⟩
    conv=>whnf
    refine⟨_,[],fun h nx _=>pureV_pure sak ⟨.fr rfl,.fr rfl,trivial⟩,by simp,?_⟩
    cases hsm:sameA (newU out)[k].attrs a with
    | false=>
     have hcf:comF K[i] a out[k]=false:=by
      rw[e1]at hsm
      simp only[sameA,decide_eq_false_iff_not]at hsm
      simp[comF,hsm]
     conv=>whnf
     refine⟨by kernel_rfl,?_⟩
     conv=>whnf
     exact⟨⟨k + 1,by omega,hno.step hck hcf⟩,(Wk.i (by repeat' (first|exact LHa|exact .int_of (wrap64_succ hck (by have:=hI.len;simp only[maxLen];omega))|exact .fnL trivial ⟨.ptr rfl (by omega),trivial⟩|exact .A|exact LeL.fr rfl|exact LHb|refine Or.inl ⟨by simp,_,rfl,?_⟩|exact Or.inr ⟨by simp,_,_,_,_,rfl⟩|refine⟨rfl,rfl,rfl,rfl,rfl,rfl,?_⟩|refine⟨?_,?_⟩)) (by omega)),by simp only;omega⟩
    | true=>
     have hsm':out[k].2=a:=by
      rw[e1]at hsm
      simpa[sameA]using hsm
     conv=>whnf
     refine⟨rfl,⟨by simp only;omega,by simp only;omega⟩,?_⟩
     conv=>whnf
     refine⟨by kernel_rfl,?_⟩
     conv=>whnf
     rw[show 0 + ((k:Nat):Int).toNat=k by simp]
     refine callV_frame (nx:=3) (n0:=2) (renOf [(0,0),(1,1)]) (hf) (by repeat' (first|exact True.intro|exact .eptr rfl (by omega)|exact .fnL trivial ⟨.ptr rfl (by omega),trivial⟩|exact .A|exact LeL.fr rfl|refine⟨?_,?_⟩)) (LeH.of (by repeat' (first|exact LHa|exact .eptr rfl (by omega)|exact .fnL trivial ⟨.ptr rfl (by omega),trivial⟩|exact .A|exact LeL.fr rfl|exact LHb|refine Or.inl ⟨by simp,_,rfl,?_⟩|exact Or.inr ⟨by simp,_,_,_,_,rfl⟩|refine⟨rfl,rfl,rfl,rfl,rfl,rfl,?_⟩|refine⟨?_,?_⟩)) (show ∀b∈([0,1]:List Nat),∀b'∈([0,1]:List Nat),(renOf [(0,0),(1,1)]) b=(renOf [(0,0),(1,1)]) b'→b=b' by decide) (fun _ h=>by omega) (by omega) (by simp)) (fun b hb=>by match b,hb with|0,_=>exact ne_none_of rfl|1,_=>exact ne_none_of rfl) (by decide) ?_
     rintro v h' nx' ⟨rfl,rfl,rfl⟩ _
     refine⟨.bool (fitU moreN (newU out) k K[i]),[(0,arrU (putU moreN (newU out) k K[i])),(1,varP K[i]),(2,some (.var true 35 (cellsA false a)))],.free .bool,(by repeat' (first|exact True.intro|exact Or.inr ⟨by decide,rfl⟩|exact Or.inl ⟨0,rfl,by omega,_,rfl,.arr (rowsUt_free _)⟩|exact Or.inl ⟨1,rfl,by omega,_,rfl,.var (cellsP_free _)⟩|refine⟨?_,?_⟩)),?_⟩
     cases hfb:fitU moreN (newU out) k K[i]with
     | true=>
      obtain⟨hp1,hp2⟩:=comS_hit (e:=(K[i],a)) hck hno hsm' hfb
      rw[hp1]
      conv=>whnf
      exact⟨⟨i + 1,by omega⟩,(Wk.i (by repeat' (first|exact LHa|exact .int_of (wrap64_succ hc hgl)|exact .osl_of rfl (by omega) (by simp only[hs2,new_len,hp2])|exact LeB.fr (by simp only[hs2]) id id|exact .A|exact LeL.fr rfl|exact LHb|refine Or.inl ⟨by simp,_,rfl,?_⟩|exact Or.inr ⟨by simp,_,_,_,_,rfl⟩|refine⟨rfl,rfl,rfl,rfl,rfl,rfl,?_⟩|refine⟨?_,?_⟩)) (by omega)),by simp only;omega⟩
     | false=>
      have hcf:comF K[i] a out[k]=false:=by
       rw[fitN_eq hck,decide_eq_false_iff_not,hsm']at hfb
       simp[comF,hsm',hfb]
      rw[show putU moreN (newU out) k K[i]=newU out by rw[putU,hfb];rfl]
      conv=>whnf
      exact⟨⟨k + 1,by omega,hno.step hck hcf⟩,(Wk.i (by repeat' (first|exact LHa|exact .int_of (wrap64_succ hck (by have:=hI.len;simp only[maxLen];omega))|exact .fnL trivial ⟨.ptr rfl (by omega),trivial⟩|exact .A|exact LeL.fr rfl|exact LHb|refine Or.inl ⟨by simp,_,rfl,?_⟩|exact Or.inr ⟨by simp,_,_,_,_,rfl⟩|refine⟨rfl,rfl,rfl,rfl,rfl,rfl,?_⟩|refine⟨?_,?_⟩)) (by omega)),by simp only;omega⟩
   rename_i hck
   have hck:k=out.length:=by simp[new_len]at hck;omega
   subst hck
   have hn1:=comS_miss hno
   have hcp:=copy_pure false a hsa.1.1 hsa.1.2.1 hsa.1.2.2
   conv=>whnf
   refine⟨_,[],fun h nx _=>pureV_pure hcp ⟨.fr rfl,trivial⟩,by simp,?_⟩
   conv=>whnf
   refine⟨rfl,by simp,?_⟩
   conv=>whnf
   refine⟨⟨rfl,rfl,rfl,rfl,by decide⟩,by simp,⟨by simp[tab,tabOf,nth,new_len];have:=hI.len;omega,by simp[new_len];have:=hI.len;omega⟩,?_⟩
   conv=>whnf
   refine⟨by kernel_rfl,?_⟩
   conv=>whnf
   exact⟨⟨i + 1,by omega⟩,(Wk.all (renOf [(0,5)]) [3] (by repeat' (first|exact LHa|exact .int_of (wrap64_succ hc hgl)|exact .osl_of rfl (by omega) (by simp only[hs2,hn1];simp[newU])|exact Or.inl ⟨by decide,_,rfl,id,id,rfl,rfl,LeR.out (LeR.of_eq' (LeR.app (LeR.of_eq (List.take_of_length_le (by simp)) (.free (rowsUt_free (newU out)))) (ys':=rowsUt [⟨[],[K[i]],a⟩]) ⟨⟨.snil_sl,.freezeE (by simp) rfl (by simp) rfl (rowsP_free _),.fr rfl,.fr rfl,.fr rfl,.fr rfl,.fr rfl,.fr rfl,.fr rfl,.fr rfl,trivial⟩,trivial⟩) (by simp only[hs2,hn1];simp[newU]))⟩|exact .A|exact LeL.fr rfl|exact LHb|refine Or.inl ⟨by simp,_,rfl,?_⟩|exact Or.inr ⟨by simp,_,_,_,_,rfl⟩|refine⟨rfl,rfl,rfl,rfl,rfl,rfl,?_⟩|refine⟨?_,?_⟩)) (show ∀b∈([0]:List Nat),∀b'∈([0]:List Nat),(renOf [(0,5)]) b=(renOf [(0,5)]) b'→b=b' by decide) (fun _ h=>by omega) (by omega) (by intro z hz;simp only[List.mem_cons,List.not_mem_nil,or_false]at hz;rcases hz with rfl<;>exact ne_none_of rfl)),by simp only;omega⟩
 rename_i hc
 have hc:i=K.length:=by simp at hc;omega
 subst hc
 conv=>whnf
 rw[List.take_length]
 exact Ends.own rfl (rowsUt_free _) rfl rfl
end
section
open Go.Proofs.Tryz (prog)
theorem cellsOut_cold (s:SelfL) (pe:Peer) (pol:Policy) (m:List (Prefix × Attrs)):∀v∈cellsOut s pe pol m,Cold v:=by
 intro v hv
 simp only[cellsOut,List.mem_cons,List.not_mem_nil,or_false]at hv
 rcases hv with rfl|rfl|rfl|rfl|rfl|rfl|rfl|rfl|rfl|rfl<;>first|exact .int|exact .bool|exact encRus_cold _|exact Cold.imap (esA_cold _)
abbrev rowsRt (l:List Route):List (List V):=l.map (cellsRt false)
def encRts (l:List Route):V:=.sl false 14 (rowsRt l)
theorem rowsRt_free (l:List Route):∀x∈rowsRt l,∀v∈x,Free v:=by
 intro x hx v hv
 obtain⟨r,_,rfl⟩:=List.mem_map.1 hx
 exact cellsRt_free false r v hv
theorem encRts_free (l:List Route):Free (encRts l):=.sl (rowsRt_free l)
instance {l}:FreeI (encRts l):=⟨⟨encRts_free l⟩⟩
theorem idxRt {l:List Route} {i:Nat} (h:i < l.length):(rowsRt l)[(i:Int).toNat]? = some (cellsRt false l[i]):=by simp[h]
def encUt (fr:Bool) (l:List Upd):V:=.sl fr 10 (l.map (cellsU fr))
theorem encUt_free (fr:Bool) (l:List Upd):Free (encUt fr l):=.sl fun x hx v hv=>by
 obtain⟨u,_,rfl⟩:=List.mem_map.1 hx
 exact cellsU_free fr u v hv
theorem encUt_fresh (l:List Upd):Fresh (encUt true l):=.sl fun x hx v hv=>(rowsUt_ff l x hx v hv).2
instance {fr l}:FreeI (encUt fr l):=⟨⟨encUt_free fr l⟩⟩
def updP (m n:List (Prefix × Attrs)):List Upd:=goneU (goU (goKs (sortPs (keysE m)) n))++ newU (comU (comKs (sortPs (keysE n)) m n))
theorem updP_go (m n:List (Prefix × Attrs)):(goU (goKs (sortPs (keysE m)) n)).length≤m.length:=by
 have h1:=(goU_I (goKs (sortPs (keysE m)) n)).len
 have h2:(goKs (sortPs (keysE m)) n).length≤(sortPs (keysE m)).length:=List.length_filter_le _ _
 rw[sortPs_len,keysE_len]at h2
 omega
theorem comKs_right {K:List Prefix} {m n:List (Prefix × Attrs)} (hr:∀e∈n,rightA e.2=true):∀e∈comKs K m n,rightA e.2=true:=by
 intro e he
 obtain⟨q,_,hq⟩:=List.mem_filterMap.1 he
 simp only[comOne,Option.bind_eq_some_iff]at hq
 obtain⟨a,ha,hq⟩:=hq
 split at hq
 ·cases hq
 ·cases hq;exact hr _ (getE_mem ha)
theorem updP_come (m:List (Prefix × Attrs)) {n:List (Prefix × Attrs)} (hr:∀e∈n,rightA e.2=true):(comU (comKs (sortPs (keysE n)) m n)).length≤n.length:=by
 have h1:=(comU_I (comKs_right (K:=sortPs (keysE n)) (m:=m) hr)).len
 have h2:(comKs (sortPs (keysE n)) m n).length≤(sortPs (keysE n)).length:=List.length_filterMap_le _ _
 rw[sortPs_len,keysE_len]at h2
 omega
theorem pfxs_succ {l:List Route} {i:Nat} (h:i < l.length):pfxs (l.take (i + 1))=pfxs (l.take i)++ [l[i].pfx]:=by
 unfold pfxs
 rw[List.take_succ_eq_append_getElem h,List.map_append]
 rfl
theorem esP_none {ds:List Prefix} {p:Prefix} (h:p ∉ ds):MPos (esP ds) (encP p) none:=by
 intro kv hkv e
 obtain⟨x,hx,rfl⟩:=List.mem_map.1 hkv
 exact h (encP_inj e▸hx)
theorem esP_val_none {ds:List Prefix} {p:Prefix} (h:p ∉ ds):MVal (esP ds) (encP p) none:=esP_none h
theorem esP_val_some {ds:List Prefix} {p:Prefix} (h:p∈ds):MVal (esP ds) (encP p) (some (.bool true)):=by
 obtain⟨i,hi⟩:=List.getElem?_of_mem h
 exact⟨i,by simp[esP,hi]⟩
theorem esP_snoc (ds:List Prefix) (p:Prefix):mput (esP ds) (encP p) (.bool true) none=esP (ds ++ [p]):=by simp[mput,esP]
theorem LeB.esPut {h:Heap} {nx nx':Nat} {ρ:Nat→Nat} {Z:List Nat} {ds:List Prefix} {p:Prefix}:LeB h nx ρ nx' Z (.map (mput (esP ds) (encP p) (.bool true) none)) (.map (esP (ds ++ [p]))):=
 LeB.map (esP_snoc ds p) (by rw[esP_snoc];exact esP_free _)
attribute [local irreducible] CallV RoundV aggK VC VLo CallB
theorem tell_bad (s:SelfL) (pe:Peer) (pol:Policy) (m:List (Prefix × Attrs)) (l:List Route) (hsm:∀r∈l,smallA r.attrs) (h:okT l=false) :
  OutC 19 [.ptr 0 0,encRts l] (cellsOut s pe pol m) (cellsOut s pe pol m) (·=.tup [.snil,.int .i64 2]):=by
 obtain⟨j,hj,hr,hnd,hbad⟩:=okT_bad h
 unfold OutC
 refine callV_of (fn:=Go.Proofs.Tryz.f19) (body:=_) tab_ok mixed rfl rfl (by decide) (by simp[Go.Proofs.Tryz.f19]) ?_
 conv=>whnf
 refine callV_out (onone_ok s pe pol m) rfl (cellsOut_free _ _ _ _) (cellsOut_free _ _ _ _) ⟨.ptr rfl (by omega),trivial⟩ ?_
 rintro v rfl
 refine⟨.bool,?_⟩
 show _
 conv=>whnf
 intro hgl
 have hgl:l.length≤maxLen:=by simpa[gd]using hgl
 conv=>whnf
 refine vcg_loop tab_ok mixed (fun i:{i:Nat // i≤j}=>⟨[(0,.ptr 0 0),(6,.mapp 1),(7,.mapp 2),(17,encRts l),(18,cI l.length),(19,cI i.1)],[(0,varOut s pe pol m),(1,some (.map (esP (pfxs (l.take i.1))))),(2,some (.map (esA (nowL s pe pol (l.take i.1)))))],3⟩) (fun i=>l.length - i.1) ⟨0,by omega⟩ (Wk.i (by repeat' (first|exact LHa|exact LeL.freeV (cellsOut_free s pe pol m)|exact .mapp rfl (by omega)|exact LeB.map rfl (by simp)|exact .int_of (by simp)|exact .A|exact LeL.fr rfl|exact LHb|refine Or.inl ⟨by simp,_,rfl,?_⟩|exact Or.inr ⟨by simp,_,_,_,_,rfl⟩|refine⟨rfl,rfl,rfl,rfl,rfl,rfl,?_⟩|refine⟨?_,?_⟩)) (by omega)) (fun i=>?_)
 obtain⟨i,hi⟩:=i
 have hc:i < l.length:=by omega
 conv=>whnf
 split
 case' h_2 hh=>exfalso;simp at hh;omega
 conv=>whnf
 refine ixK (idxRt hc) ?_
 conv=>whnf
 refine callV_pure (oright_ok false l[i]) ⟨.fr rfl,trivial⟩ ?_
 rcases Nat.lt_or_ge i j with hij|hij
 ·have hri:(prefOk l[i].pfx && rightA l[i].attrs)=true:=hr _ (by rw[List.mem_take_iff_getElem];exact⟨i,by omega,rfl⟩)
  have hni:l[i].pfx ∉ pfxs (l.take i):=by
   intro hm
   have e:pfxs (l.take j)=pfxs (l.take i)++ l[i].pfx :: pfxs ((l.take j).drop (i + 1)):=by
    have h1:l.take j=l.take i ++ l[i] :: (l.take j).drop (i + 1):=by
     have h2:(l.take j).take i=l.take i:=by rw[List.take_take,Nat.min_eq_left (by omega)]
     have h3:i < (l.take j).length:=by rw[List.length_take];omega
     have h4:=(List.take_append_drop i (l.take j)).symm
     rw[h2,List.drop_eq_getElem_cons h3]at h4
     simpa using h4
    unfold pfxs
    conv=>lhs;rw[h1]
    simp
   rw[e,List.nodup_append]at hnd
   exact hnd.2.2 _ hm _ (by simp) rfl
  have hnp:=(nowL_keys (s:=s) (pe:=pe) (pol:=pol) (l:=l.take i) (p:=l[i].pfx))
  have hns:=nowL_succ (s:=s) (pe:=pe) (pol:=pol) hc
  have hsay:=says_ok s pe pol m l[i] (hsm _ (List.getElem_mem hc))
  rw[hri]
  conv=>whnf
  refine⟨esP_keys _,keyP _,none,esP_val_none hni,?_⟩
  conv=>whnf
  refine⟨esP_keys _,keyP _,none,esP_none hni,?_⟩
  conv=>whnf
  refine callV_out hsay rfl (cellsOut_free _ _ _ _) (cellsOut_free _ _ _ _) ⟨.ptr rfl (by omega),.fr rfl,trivial⟩ ?_
  rintro v rfl
  refine⟨.tup (by simp;exact⟨encA_free _ _,.bool⟩),?_⟩
  show _
  cases ho:sayO s pe pol l[i]with
  | none=>
   rw[ho,List.append_nil]at hns
   conv=>whnf
   exact⟨⟨i + 1,by omega⟩,(Wk.i (by repeat' (first|exact LHa|exact LeL.freeV (cellsOut_free s pe pol m)|exact .mapp rfl (by omega)|exact(by simp only[pfxs_succ hc];exact LeB.esPut)|exact LeB.map (by simp only[hns]) (esA_free _)|exact .int_of (wrap64_succ hc hgl)|exact .A|exact LeL.fr rfl|exact LHb|refine Or.inl ⟨by simp,_,rfl,?_⟩|exact Or.inr ⟨by simp,_,_,_,_,rfl⟩|refine⟨rfl,rfl,rfl,rfl,rfl,rfl,?_⟩|refine⟨?_,?_⟩)) (by omega)),by simp only;omega⟩
  | some a=>
   rw[ho]at hns
   conv=>whnf
   refine⟨esA_keys _,keyP _,none,put_new (fun h=>hni (hnp h)),?_⟩
   conv=>whnf
   exact⟨⟨i + 1,by omega⟩,(Wk.i (by repeat' (first|exact LHa|exact LeL.freeV (cellsOut_free s pe pol m)|exact .mapp rfl (by omega)|exact(by simp only[pfxs_succ hc];exact LeB.esPut)|exact(by simp only[hns];exact LeB.mapPut)|exact .int_of (wrap64_succ hc hgl)|exact .A|exact LeL.fr rfl|exact LHb|refine Or.inl ⟨by simp,_,rfl,?_⟩|exact Or.inr ⟨by simp,_,_,_,_,rfl⟩|refine⟨rfl,rfl,rfl,rfl,rfl,rfl,?_⟩|refine⟨?_,?_⟩)) (by omega)),by simp only;omega⟩
 ·obtain rfl:i=j:=by omega
  cases hri:prefOk l[i].pfx && rightA l[i].attrs with
  | false=>
   conv=>whnf
   exact⟨.tup [.snil,.int .i64 2],[(0,varOut s pe pol m)],1,(Ends.all id [] (by repeat' (first|exact LHa|exact LeL.freeV (cellsOut_free s pe pol m)|exact .tupL ⟨.fr rfl,.fr rfl,trivial⟩|exact .A|exact LeL.fr rfl|exact LHb|refine Or.inl ⟨by simp,_,rfl,?_⟩|exact Or.inr ⟨by simp,_,_,_,_,rfl⟩|refine⟨rfl,rfl,rfl,rfl,rfl,rfl,?_⟩|refine⟨?_,?_⟩)) (fun _ _ _ _ h=>h) (fun _ _=>rfl) (by omega) (by simp)),rfl,rfl,rfl⟩
  | true=>
   have hm:l[i].pfx∈pfxs (l.take i):=by
    rcases hbad with hb|hb
    ·rw[rightR,hri]at hb;cases hb
    ·exact hb
   conv=>whnf
   refine⟨esP_keys _,keyP _,some (.bool true),esP_val_some hm,?_⟩
   conv=>whnf
   exact⟨.tup [.snil,.int .i64 2],[(0,varOut s pe pol m)],1,(Ends.all id [] (by repeat' (first|exact LHa|exact LeL.freeV (cellsOut_free s pe pol m)|exact .tupL ⟨.fr rfl,.fr rfl,trivial⟩|exact .A|exact LeL.fr rfl|exact LHb|refine Or.inl ⟨by simp,_,rfl,?_⟩|exact Or.inr ⟨by simp,_,_,_,_,rfl⟩|refine⟨rfl,rfl,rfl,rfl,rfl,rfl,?_⟩|refine⟨?_,?_⟩)) (fun _ _ _ _ h=>h) (fun _ _=>rfl) (by omega) (by simp)),rfl,rfl,rfl⟩
theorem tell_B (s:SelfL) (pe:Peer) (pol:Policy) (m:List (Prefix × Attrs)) (hm:m.length≤1000) (l:List Route) (hl:l.length≤1000) (hsm:∀r∈l,smallA r.attrs) (h:okT l=true) :
  CallB prog 19 [.ptr 0 0,encRts l] [(0,varOut s pe pol m)] 1 (fun v h nx=>v=.tup [encUt true (updP m (nowL s pe pol l)),.int .i64 0]∧h=[(0,varOut s pe pol (nowL s pe pol l))]∧nx=1):=by
 obtain⟨hr,hnd⟩:=okT_out h
 have hF:FW Fence.wide:=.inl rfl
 refine CallB.tidy (R:=fun v h nx=>v=.tup [encUt true (updP m (nowL s pe pol l)),.int .i64 0]∧h=[(0,varOut s pe pol (nowL s pe pol l)),(0,varOut s pe pol m)]∧nx=1) ?_ (fun v h' nx' ⟨h1,h2,h3⟩=>⟨[(0,varOut s pe pol (nowL s pe pol l))],fun b=>by subst h2;rw[hget_cons,hget_cons,hget_cons];split<;>rfl,h1,rfl,h3⟩)
 refine callB_of_lo (fn:=Go.Proofs.Tryz.f19) (body:=_) tab_ok rfl rfl (by simp[Go.Proofs.Tryz.f19]) (Nat.le_of_ble_eq_true rfl) ?_
 refine vlo_seq (vcg_ok (rd:=false) tab_ok mixed hF (fun _=>rfl) ?_)
 conv=>whnf
 refine vlo_seq (vcg_ok (rd:=false) tab_ok mixed hF (fun _=>rfl) ?_)
 conv=>whnf
 refine callV_out (onone_ok s pe pol m) rfl (cellsOut_free _ _ _ _) (cellsOut_free _ _ _ _) ⟨.ptr rfl (by omega),trivial⟩ ?_
 rintro v rfl
 refine⟨.bool,?_⟩
 show _
 conv=>whnf
 refine vlo_seq (vcg_ok (rd:=false) tab_ok mixed hF (fun _=>rfl) ?_)
 conv=>whnf
 refine vlo_seq (vcg_ok (rd:=false) tab_ok mixed hF (fun _=>rfl) ?_)
 conv=>whnf
 intro hgl
 have hgl:l.length≤maxLen:=by simpa[gd]using hgl
 conv=>whnf
 refine vcg_loop tab_ok mixed (fun i:{i:Nat // i≤l.length}=>⟨[(0,.ptr 0 0),(6,.mapp 1),(7,.mapp 2),(17,encRts l),(18,cI l.length),(19,cI i.1)],[(0,varOut s pe pol m),(1,some (.map (esP (pfxs (l.take i.1))))),(2,some (.map (esA (nowL s pe pol (l.take i.1)))))],3⟩) (fun i=>l.length - i.1) ⟨0,by omega⟩ (Wk.i (by repeat' (first|exact LHa|exact LeL.freeV (cellsOut_free s pe pol m)|exact .mapp rfl (by omega)|exact LeB.map rfl (by simp)|exact .int_of (by simp)|exact .A|exact LeL.fr rfl|exact LHb|refine Or.inl ⟨by simp,_,rfl,?_⟩|exact Or.inr ⟨by simp,_,_,_,_,rfl⟩|refine⟨rfl,rfl,rfl,rfl,rfl,rfl,?_⟩|refine⟨?_,?_⟩)) (by omega)) (fun i=>?_)
 obtain⟨i,hi⟩:=i
 conv=>whnf
 split
 ·rename_i hc
  have hc:i < l.length:=by simpa using hc
  conv=>whnf
  refine ixK (idxRt hc) ?_
  conv=>whnf
  refine callV_pure (oright_ok false l[i]) ⟨.fr rfl,trivial⟩ ?_
  have hri:(prefOk l[i].pfx && rightA l[i].attrs)=true:=hr _ (List.getElem_mem hc)
  have hni:l[i].pfx ∉ pfxs (l.take i):=by
   intro hm
   have h4:=(List.take_append_drop i l).symm
   rw[List.drop_eq_getElem_cons hc]at h4
   have e:=congrArg pfxs h4
   rw[show pfxs (l.take i ++ l[i] :: l.drop (i + 1))=pfxs (l.take i)++ l[i].pfx :: pfxs (l.drop (i + 1))by unfold pfxs;rw[List.map_append];rfl]at e
   rw[e,List.nodup_append]at hnd
   exact hnd.2.2 _ hm _ (by simp) rfl
  have hnp:=(nowL_keys (s:=s) (pe:=pe) (pol:=pol) (l:=l.take i) (p:=l[i].pfx))
  have hns:=nowL_succ (s:=s) (pe:=pe) (pol:=pol) hc
  have hsay:=says_ok s pe pol m l[i] (hsm _ (List.getElem_mem hc))
  rw[hri]
  conv=>whnf
  refine⟨esP_keys _,keyP _,none,esP_val_none hni,?_⟩
  conv=>whnf
  refine⟨esP_keys _,keyP _,none,esP_none hni,?_⟩
  conv=>whnf
  refine callV_out hsay rfl (cellsOut_free _ _ _ _) (cellsOut_free _ _ _ _) ⟨.ptr rfl (by omega),.fr rfl,trivial⟩ ?_
  rintro v rfl
  refine⟨.tup (by simp;exact⟨encA_free _ _,.bool⟩),?_⟩
  show _
  cases ho:sayO s pe pol l[i]with
  | none=>
   rw[ho,List.append_nil]at hns
   conv=>whnf
   exact⟨⟨i + 1,by omega⟩,(Wk.i (by repeat' (first|exact LHa|exact LeL.freeV (cellsOut_free s pe pol m)|exact .mapp rfl (by omega)|exact(by simp only[pfxs_succ hc];exact LeB.esPut)|exact LeB.map (by simp only[hns]) (esA_free _)|exact .int_of (wrap64_succ hc hgl)|exact .A|exact LeL.fr rfl|exact LHb|refine Or.inl ⟨by simp,_,rfl,?_⟩|exact Or.inr ⟨by simp,_,_,_,_,rfl⟩|refine⟨rfl,rfl,rfl,rfl,rfl,rfl,?_⟩|refine⟨?_,?_⟩)) (by omega)),by simp only;omega⟩
  | some a=>
   rw[ho]at hns
   conv=>whnf
   refine⟨esA_keys _,keyP _,none,put_new (fun h=>hni (hnp h)),?_⟩
   conv=>whnf
   exact⟨⟨i + 1,by omega⟩,(Wk.i (by repeat' (first|exact LHa|exact LeL.freeV (cellsOut_free s pe pol m)|exact .mapp rfl (by omega)|exact(by simp only[pfxs_succ hc];exact LeB.esPut)|exact(by simp only[hns];exact LeB.mapPut)|exact .int_of (wrap64_succ hc hgl)|exact .A|exact LeL.fr rfl|exact LHb|refine Or.inl ⟨by simp,_,rfl,?_⟩|exact Or.inr ⟨by simp,_,_,_,_,rfl⟩|refine⟨rfl,rfl,rfl,rfl,rfl,rfl,?_⟩|refine⟨?_,?_⟩)) (by omega)),by simp only;omega⟩
 rename_i hc
 have hc:i=l.length:=by simp at hc;omega
 subst hc
 conv=>whnf
 rw[List.take_length]
 have hnr:∀e∈nowL s pe pol l,rightA e.2=true:=fun e he=>check_right (nowL_right e he)
 have hnl:(nowL s pe pol l).length≤1000:=Nat.le_trans nowL_len hl
 generalize nowL s pe pol l=n at hnr hnl ⊢
 refine vlo_weak (Wk.all id [2] (by repeat' (first|exact LHa|exact LeL.freeV (cellsOut_free s pe pol m)|exact LeV.freezeM (by simp) rfl rfl (esA_free _)|exact .A|exact LeL.fr rfl|exact LHb|refine Or.inl ⟨by simp,_,rfl,?_⟩|exact Or.inr ⟨by simp,_,_,_,_,rfl⟩|refine⟨rfl,rfl,rfl,rfl,rfl,rfl,?_⟩|refine⟨?_,?_⟩)) (fun _ _ _ _ h=>h) (fun _ _=>rfl) (by omega) (by intro z hz;simp only[List.mem_cons,List.not_mem_nil,or_false]at hz;rcases hz with rfl<;>exact ne_none_of rfl)) (s':=⟨[(0,.ptr 0 0),(7,.imap false (esA n))],[(0,varOut s pe pol m)],1⟩) ?_
 have hgo:=goes_ok m n hm hnl
 have hco:=PCon.of_own (comes_ok m n hm hnl hnr) (by simp) (rowsUt_free _)
 rw[List.take_of_length_le (by simp)]at hco
 refine vlo_put tab_ok mixed hF (b0:=0) (x:=0) (y:=7) (z:=12) (d0:=60) (d1:=61) (d2:=62) (d3:=63) (off:=9) (nx2:=1) (vy:=.imap false (esA n)) (vz:=encUt true (updP m n)) rfl rfl ⟨imapA_free n,Cold.imap (esA_cold n)⟩ rfl rfl (fun v hv=>⟨cellsOut_free s pe pol m v hv,cellsOut_cold s pe pol m v hv⟩) (by simp[cellsOut]) ⟨⟨_,_,_,_,_,97,3,95,95,_,rfl,⟨rfl,rfl,rfl,rfl,rfl⟩,⟨rfl,rfl,rfl,rfl,rfl⟩,⟨rfl,rfl,rfl,rfl,rfl⟩,rfl,rfl,by decide,by simp[tab,tabOf,nth],by decide,by simp[tab,tabOf,nth],rfl⟩,by decide⟩ (by decide) ⟨encUt_free _ _,encUt_fresh _⟩ (fun u=>?_) ?_
 ·conv=>whnf
  refine⟨.osl 0 10 0 (goneU (goU (goKs (sortPs (keysE m)) n))).length,[],.arr true false 86 10 (rowsUt (goneU (goU (goKs (sortPs (keysE m)) n)))),fun h nx _=>newV_own [] hgo ⟨.fr rfl,.fr rfl,trivial⟩ (by intro v hv;simp at hv;rcases hv with rfl|rfl<;>exact Cold.imap (esA_cold _)) (by simp) (rowsUt_ff _),by simp,?_⟩
  conv=>whnf
  refine⟨_,[],fun h nx _=>pureV_pure hco ⟨.fr rfl,.fr rfl,trivial⟩,by simp,?_⟩
  conv=>whnf
  refine⟨⟨rfl,rfl,rfl,rfl,by decide⟩,by simp,⟨by simp[tab,tabOf,nth,gone_len,new_len];have:=updP_go m n;have:=updP_come m hnr;omega,by simp[gone_len,new_len];have:=updP_go m n;have:=updP_come m hnr;omega⟩,?_⟩
  conv=>whnf
  exact⟨by kernel_rfl,⟨_,rfl⟩,⟨_,rfl⟩,Wk.of id [1] ⟨.freezeE (by simp) rfl (by simp) (by simp[updP,List.take_of_length_le]) (rowsUt_free _),trivial⟩ (LeH.nil (by omega) (fun _ _=>rfl) (one_none rfl))⟩
 ·conv=>whnf
  exact⟨.tup [encUt true (updP m n),.int .i64 0],[],0,Ends.all id [] ⟨.tupL ⟨.fr rfl,.fr rfl,trivial⟩,trivial⟩ (fun _ _ _ _ h=>h) (fun _ _=>rfl) (by omega) (by simp),.tup (by simp;exact⟨encUt_free _ _,.int⟩),.tup (by simp;exact⟨encUt_fresh _,.int⟩),rfl,rfl,rfl⟩
end
section
open Go.Proofs.Tryz (prog)
attribute [local irreducible] CallV RoundV aggK
theorem lenO_ok (s:SelfL) (pe:Peer) (pol:Policy) (m:List (Prefix × Attrs)):OutC 23 [.ptr 0 0] (cellsOut s pe pol m) (cellsOut s pe pol m) (·=.int .i64 m.length):=by
 unfold OutC
 refine callV_of (fn:=Go.Proofs.Tryz.f23) (body:=_) tab_ok mixed rfl rfl (by decide) (by simp[Go.Proofs.Tryz.f23]) ?_
 conv=>whnf
 refine callV_out (onone_ok s pe pol m) rfl (cellsOut_free _ _ _ _) (cellsOut_free _ _ _ _) ⟨.ptr rfl (by omega),trivial⟩ ?_
 rintro v rfl
 refine⟨.bool,?_⟩
 show _
 conv=>whnf
 exact⟨.int .i64 m.length,[(0,varOut s pe pol m)],1,(Ends.all id [] (by repeat' (first|exact LHa|exact LeL.freeV (cellsOut_free s pe pol m)|exact .int_of (by simp[esA])|exact .A|exact LeL.fr rfl|exact LHb|refine Or.inl ⟨by simp,_,rfl,?_⟩|exact Or.inr ⟨by simp,_,_,_,_,rfl⟩|refine⟨rfl,rfl,rfl,rfl,rfl,rfl,?_⟩|refine⟨?_,?_⟩)) (fun _ _ _ _ h=>h) (fun _ _=>rfl) (by omega) (by simp)),rfl,rfl,rfl⟩
theorem toldO_ok (s:SelfL) (pe:Peer) (pol:Policy) (m:List (Prefix × Attrs)):OutC 20 [.ptr 0 0] (cellsOut s pe pol m) (cellsOut s pe pol m) (·=.fn (.func 49) [] [.iptr true [.imap false (esA m)]]):=by
 unfold OutC
 refine callV_of (fn:=Go.Proofs.Tryz.f20) (body:=_) tab_ok mixed rfl rfl (by decide) (by simp[Go.Proofs.Tryz.f20]) ?_
 conv=>whnf
 refine callV_out (onone_ok s pe pol m) rfl (cellsOut_free _ _ _ _) (cellsOut_free _ _ _ _) ⟨.ptr rfl (by omega),trivial⟩ ?_
 rintro v rfl
 refine⟨.bool,?_⟩
 show _
 conv=>whnf
 refine callV_pure (cloneO_pure false false (esA m)) ⟨.fr rfl,trivial⟩ ?_
 conv=>whnf
 exact⟨.fn (.func 49) [] [.iptr true [.imap false (esA m)]],[(0,varOut s pe pol m)],1,(Ends.all id [1] (by repeat' (first|exact LHa|exact LeL.freeV (cellsOut_free s pe pol m)|exact .fnL trivial ⟨LeV.freezeP (by simp) rfl (by intro v hv;simp at hv;subst hv;exact imapA_free m),trivial⟩|exact .A|exact LeL.fr rfl|exact LHb|refine Or.inl ⟨by simp,_,rfl,?_⟩|exact Or.inr ⟨by simp,_,_,_,_,rfl⟩|refine⟨rfl,rfl,rfl,rfl,rfl,rfl,?_⟩|refine⟨?_,?_⟩)) (fun _ _ _ _ h=>h) (fun _ _=>rfl) (by omega) (by intro z hz;simp only[List.mem_cons,List.not_mem_nil,or_false]at hz;rcases hz with rfl<;>exact ne_none_of rfl)),rfl,rfl,rfl⟩
end
section
open Go.Proofs.Tryz (prog)
attribute [local irreducible] CallV RoundV aggK VC
structure OutS where
 self:SelfL
 peer:Peer
 pol:Policy
 told:List (Prefix × Attrs)
def cellsOS (o:OutS):List V:=[cW o.self.sys,cW o.self.id,cW o.self.addr,cW o.peer.sys,cW o.peer.id,cW o.peer.addr,.bool o.peer.inner,encRus false o.pol.rules,.bool o.pol.els,encEns false o.told]
def encOS (o:OutS):V:=.agg (cellsOS o)
theorem cellsOS_free (o:OutS):∀v∈cellsOS o,Free v:=by
 intro v hv
 simp only[cellsOS,List.mem_cons,List.not_mem_nil,or_false]at hv
 rcases hv with rfl|rfl|rfl|rfl|rfl|rfl|rfl|rfl|rfl|rfl<;>first|exact .int|exact .bool|exact .sl (rowsRu_free _)|exact encEns_free _ _
theorem encOS_free (o:OutS):Free (encOS o):=.agg (cellsOS_free o)
instance {o}:FreeI (encOS o):=⟨⟨encOS_free o⟩⟩
instance {o}:FreeLI (cellsOS o):=⟨⟨cellsOS_free o⟩⟩
def noOS:OutS:=⟨⟨0,0,0⟩,⟨0,0,0,false⟩,⟨[],false⟩,[]⟩
def newOS (s:SelfL) (pe:Peer) (pol:Policy):OutS:=if newO s pe pol then⟨s,pe,pol,[]⟩else noOS
theorem LeV.noOS {h:Heap} {nx nx':Nat} {ρ:Nat→Nat} {Z:List Nat}:LeV h nx ρ nx' Z (.agg [.int .u32 0,.int .u32 0,.int .u32 0,.int .u32 0,.int .u32 0,.int .u32 0,.bool false,.snil,.bool false,.snil]) (encOS noOS):=
 .aggL ⟨.fr rfl,.fr rfl,.fr rfl,.fr rfl,.fr rfl,.fr rfl,.fr rfl,.snil_sl,.fr rfl,.snil_sl,trivial⟩
end
section
open Go.Proofs.Tryz (prog)
abbrev rowsUf (l:List Upd):List (List V):=l.map (cellsU false)
theorem rowsUf_free (l:List Upd):∀x∈rowsUf l,∀v∈x,Free v:=by
 intro x hx v hv
 obtain⟨u,_,rfl⟩:=List.mem_map.1 hx
 exact cellsU_free false u v hv
instance {l:List Upd}:FreeRI (l.map (cellsU false)):=⟨⟨rowsUf_free l⟩⟩
instance {fr l}:FreeI (encEns fr l):=⟨⟨encEns_free fr l⟩⟩
attribute [local irreducible] CallV RoundV aggK
end
section
open Go.Proofs.Tryz (prog)
def oneR (o:OutS) (p:Prefix) (r:Route):Option (Prefix × Attrs):=if r.pfx=p then(sayO o.self o.peer o.pol r).map fun a=>(p,a)else none
def allR (l:List Route):List Prefix:=sortPs (dd (pfxs l))
def nowR (o:OutS) (K:List Prefix) (l:List Route):List (Prefix × Attrs):=K.flatMap fun p=>l.filterMap (oneR o p)
theorem nowR_mem {o:OutS} {K:List Prefix} {l:List Route} {e:Prefix × Attrs}:e∈nowR o K l↔e.1∈K∧∃r∈l,r.pfx=e.1∧sayO o.self o.peer o.pol r=some e.2:=by
 obtain⟨p,a⟩:=e
 simp only[nowR,List.mem_flatMap,List.mem_filterMap,oneR]
 constructor
 ·rintro ⟨q,hq,r,hr,h⟩
  split at h
  ·rename_i hp
   obtain⟨b,hb,he⟩:=Option.map_eq_some_iff.1 h
   cases he
   exact⟨hq,r,hr,hp,hb⟩
  ·cases h
 ·rintro ⟨hq,r,hr,hp,hs⟩
  exact⟨p,hq,r,hr,by rw[if_pos hp,hs];rfl⟩
theorem nowL_mem {s:SelfL} {pe:Peer} {pol:Policy} {l:List Route} {e:Prefix × Attrs}:e∈nowL s pe pol l↔∃r∈l,r.pfx=e.1∧sayO s pe pol r=some e.2:=by
 obtain⟨p,a⟩:=e
 simp only[nowL,List.mem_filterMap]
 constructor
 ·rintro ⟨r,hr,h⟩
  obtain⟨b,hb,he⟩:=Option.map_eq_some_iff.1 h
  cases he
  exact⟨r,hr,rfl,hb⟩
 ·rintro ⟨r,hr,hp,hs⟩
  exact⟨r,hr,by rw[hs];simp[← hp]⟩
theorem one_le {o:OutS} {p:Prefix}:∀{l:List Route},(pfxs l).Nodup→(l.filterMap (oneR o p)).length≤1
 | [],_=>by simp
 | r :: l,h=>by
  simp only[pfxs,List.map_cons,List.nodup_cons]at h
  have ih:=one_le (o:=o) (p:=p) (l:=l) h.2
  rw[List.filterMap_cons]
  cases ho:oneR o p r with
  | none=>exact ih
  | some e=>
   have hp:r.pfx=p:=by
    unfold oneR at ho
    split at ho
    ·assumption
    ·cases ho
   have hz:l.filterMap (oneR o p)=[]:=by
    rw[List.filterMap_eq_nil_iff]
    intro q hq
    rw[oneR,if_neg]
    intro e
    exact h.1 (by rw[hp,← e];exact List.mem_map.2 ⟨q,hq,rfl⟩)
   rw[hz]
   simp
theorem nowR_keys_sub {o:OutS} {l:List Route} (h:(pfxs l).Nodup):∀K:List Prefix,(keysE (nowR o K l)).Sublist K
 | []=>by simp[nowR,keysE]
 | p :: K=>by
  have ih:=nowR_keys_sub (o:=o) h K
  have e:nowR o (p :: K) l=l.filterMap (oneR o p)++ nowR o K l:=rfl
  rw[e]
  unfold keysE at ih ⊢
  rw[List.map_append]
  have h1:=one_le (o:=o) (p:=p) h
  have hk:∀x∈l.filterMap (oneR o p),x.1=p:=by
   intro x hx
   obtain⟨r,_,hr⟩:=List.mem_filterMap.1 hx
   unfold oneR at hr
   split at hr
   ·obtain⟨b,_,hb⟩:=Option.map_eq_some_iff.1 hr
    rw[← hb]
   ·cases hr
  match hm:l.filterMap (oneR o p),h1 with
  | [],_=>exact ih.cons p
  | [x],_=>
   rw[hm]at hk
   have:=hk x (by simp)
   simp only[List.map_cons,List.map_nil,List.singleton_append,this]
   exact ih.cons_cons p
theorem sortPs_strict {l:List Prefix} (hn:l.Nodup):(sortPs l).Pairwise fun x y=>pkey x < pkey y:=by
 have h2:(sortPs l).Nodup:=(List.mergeSort_perm l _).nodup_iff.2 hn
 exact((sortPs_sorted l).and h2).imp fun⟨h1,h2⟩=>Nat.lt_of_le_of_ne h1 fun e=>h2 (pkey_inj e)
theorem allR_eq {l:List Route} (h:okT l=true):allR l=sortPs (pfxs l):=by
 obtain⟨h1,h2⟩:=okT_out h
 unfold allR
 rw[dd_self (fun p hp=>?_) h2]
 obtain⟨r,hr,rfl⟩:=List.mem_map.1 hp
 have:=h1 r hr
 simp only[rightR,Bool.and_eq_true]at this
 exact this.1
theorem nowR_perm {o:OutS} {l:List Route} (h:okT l=true):RisE (nowR o (allR l) l)∧(nowR o (allR l) l).Perm (nowL o.self o.peer o.pol l):=by
 obtain⟨h1,h2⟩:=okT_out h
 have hst:(allR l).Pairwise fun x y=>pkey x < pkey y:=by rw[allR_eq h];exact sortPs_strict h2
 have hris:RisE (nowR o (allR l) l):=List.Pairwise.sublist (nowR_keys_sub h2 _) hst
 refine⟨hris,?_⟩
 rw[List.perm_ext_iff_of_nodup hris.nod.nodup (nowL_nod h2).nodup]
 intro e
 rw[nowR_mem,nowL_mem]
 constructor
 ·exact fun h=>h.2
 ·rintro ⟨r,hr,hp,hs⟩
  refine⟨?_,r,hr,hp,hs⟩
  rw[← hp,allR_eq h,mem_sortPs]
  exact List.mem_map.2 ⟨r,hr,rfl⟩
theorem nowR_right {o:OutS} {K:List Prefix} {l:List Route}:∀e∈nowR o K l,rightA e.2=true:=by
 intro e he
 obtain⟨_,r,_,hp,hs⟩:=nowR_mem.1 he
 have:=sayO_right hs
 exact check_right this
def tellS (o:OutS) (l:List Route):OutS:=if okT l then { o with told:=nowR o (allR l) l } else o
def tellU (o:OutS) (l:List Route):List Upd:=if okT l then updO o.told (nowR o (allR l) l)else []
attribute [local irreducible] CallV RoundV aggK VC
theorem encEn_rows_free (l:List (Prefix × Attrs)):∀x∈l.map (encEn false),∀v∈x,Free v:=by
 intro x hx v hv
 obtain⟨e,_,rfl⟩:=List.mem_map.1 hx
 exact encEn_free false e v hv
instance {l:List (Prefix × Attrs)}:FreeRI (l.map (encEn false)):=⟨⟨encEn_rows_free l⟩⟩
instance {l:List Prefix}:FreeRI (l.map cellsP):=⟨⟨rowsP_free l⟩⟩
theorem LeL.noOS {h:Heap} {nx nx':Nat} {ρ:Nat→Nat} {Z:List Nat}:LeL h nx ρ nx' Z [.int .u32 0,.int .u32 0,.int .u32 0,.int .u32 0,.int .u32 0,.int .u32 0,.bool false,.snil,.bool false,.snil] (cellsOS noOS):=
 ⟨.fr rfl,.fr rfl,.fr rfl,.fr rfl,.fr rfl,.fr rfl,.fr rfl,.snil_sl,.fr rfl,.snil_sl,trivial⟩
end
section
open Go.Proofs.Tryz (prog)
attribute [local irreducible] CallV RoundV aggK
theorem num26_ok (n:Int):PCon prog 13 [.int .i64 n] (.int .i64 n):=by
 refine callV_of (fn:=Go.Proofs.Tryz.f13) (body:=_) tab_ok mixed rfl rfl (by decide) (by simp[Go.Proofs.Tryz.f13]) ?_
 conv=>whnf
 exact(Ends.pure [] (by repeat' (first|exact True.intro|exact .fr rfl|exact .A|exact LeL.fr rfl|refine .tupL ?_|refine .aggL ?_|refine⟨?_,?_⟩)) (by simp))
def few26P (r:Route):Bool:=r.attrs.path.all fun p=>decide (p.ns.length≤40)
def few26R (r:Route):Bool:=decide (r.attrs.path.length≤20)&& decide (r.attrs.tags.length≤40)&& few26P r
def few26S (l:List Route) (most:Int):Bool:=l.all few26R && decide ((l.length:Int)≤most)
theorem few26S_false {l:List Route} {most:Int} {i:Nat} (h:i < l.length) (hx:few26R l[i]=false):few26S l most=false:=by
 rw[few26S,Bool.and_eq_false_iff]
 left
 cases hh:l.all few26R with
 | false=>rfl
 | true=>rw[List.all_eq_true.1 hh _ (List.getElem_mem h)]at hx;cases hx
theorem few26R_3 {r:Route} {k:Nat} (hk:k < r.attrs.path.length) (h:¬ r.attrs.path[k].ns.length≤40):few26R r=false:=by
 have:few26P r=false:=by
  cases hh:few26P r with
  | false=>rfl
  | true=>exact absurd (of_decide_eq_true (List.all_eq_true.1 hh _ (List.getElem_mem hk))) h
 simp[few26R,this]
theorem few26_small {r:Route} (h:few26R r=true):smallA r.attrs:=by
 simp only[few26R,few26P,Bool.and_eq_true,decide_eq_true_eq,List.all_eq_true]at h
 exact⟨by omega,fun p hp=>by have:=h.2 p hp;omega,by omega⟩
theorem few26S_out {l:List Route} {most:Int} (h:few26S l most=true):(∀r∈l,smallA r.attrs)∧(l.length:Int)≤most:=by
 simp only[few26S,Bool.and_eq_true,decide_eq_true_eq,List.all_eq_true]at h
 exact⟨fun r hr=>few26_small (h.1 r hr),h.2⟩
theorem few26_ok (l:List Route) (most:Int):PCon prog 9 [encRts l,.int .i64 most] (.bool (few26S l most)):=by
 refine callV_of (fn:=Go.Proofs.Tryz.f9) (body:=_) tab_ok mixed rfl rfl (by decide) (by simp[Go.Proofs.Tryz.f9]) ?_
 conv=>whnf
 refine vcg_loop tab_ok mixed (fun i:{i:Nat // i≤l.length∧∀j,(h:j < l.length)→j < i→few26R l[j]=true}=>⟨[(0,encRts l),(1,.int .i64 most),(5,cI i.1)],[],0⟩) (fun i=>l.length - i.1) ⟨0,by omega,fun j _ h=>by omega⟩ (Wk.i (by repeat' (first|exact LHa|exact .int_of (by simp)|exact .A|exact LeL.fr rfl|exact LHb|refine Or.inl ⟨by simp,_,rfl,?_⟩|exact Or.inr ⟨by simp,_,_,_,_,rfl⟩|refine⟨rfl,rfl,rfl,rfl,rfl,rfl,?_⟩|refine⟨?_,?_⟩)) (by omega)) (fun i=>?_)
 obtain⟨i,hi,hz⟩:=i
 conv=>whnf
 intro hgl
 have hgl:l.length≤maxLen:=by simpa[gd]using hgl
 conv=>whnf
 split
 ·rename_i hc
  have hc:i < l.length:=by simpa using hc
  conv=>whnf
  refine ixK (idxRt hc) ?_
  conv=>whnf
  intro _
  conv=>whnf
  split
  ·rename_i hh
   conv=>whnf
   exact(Ends.pure [] (by repeat' (first|exact True.intro|exact .bool_of (few26S_false hc (by simp[few26R];intro h;simp at hh;omega)).symm|exact .A|exact LeL.fr rfl|refine .tupL ?_|refine .aggL ?_|refine⟨?_,?_⟩)) (by simp))
  rename_i h1
  conv=>whnf
  refine ixK (idxRt hc) ?_
  conv=>whnf
  intro _
  conv=>whnf
  split
  ·rename_i hh
   conv=>whnf
   exact(Ends.pure [] (by repeat' (first|exact True.intro|exact .bool_of (few26S_false hc (by simp[few26R];intro _ h;simp at hh;omega)).symm|exact .A|exact LeL.fr rfl|refine .tupL ?_|refine .aggL ?_|refine⟨?_,?_⟩)) (by simp))
  rename_i h2
  have hU:(decide (l[i].attrs.path.length≤20)&& decide (l[i].attrs.tags.length≤40))=true:=by
   simp at h1 h2 ⊢
   omega
  conv=>whnf
  refine vcg_loop tab_ok mixed (fun k:{k:Nat // k≤l[i].attrs.path.length∧∀j,(h:j < l[i].attrs.path.length)→j < k→l[i].attrs.path[j].ns.length≤40}=>⟨[(0,encRts l),(1,.int .i64 most),(5,cI i),(6,cI k.1)],[],0⟩) (fun k=>l[i].attrs.path.length - k.1) ⟨0,by omega,fun j _ h=>by omega⟩ (Wk.i (by repeat' (first|exact LHa|exact .int_of (by simp)|exact .A|exact LeL.fr rfl|exact LHb|refine Or.inl ⟨by simp,_,rfl,?_⟩|exact Or.inr ⟨by simp,_,_,_,_,rfl⟩|refine⟨rfl,rfl,rfl,rfl,rfl,rfl,?_⟩|refine⟨?_,?_⟩)) (by omega)) (fun k=>?_)
  obtain⟨k,hk,hzk⟩:=k
  conv=>whnf
  refine ixK (idxRt hc) ?_
  conv=>whnf
  intro hgk
  have hgk:l[i].attrs.path.length≤maxLen:=by simpa[gd]using hgk
  conv=>whnf
  split
  ·rename_i hck
   have hck:k < l[i].attrs.path.length:=by simpa using hck
   conv=>whnf
   refine ixK (idxRt hc) ?_
   conv=>whnf
   refine ixK (idxL hck) ?_
   conv=>whnf
   intro _
   conv=>whnf
   split
   ·rename_i hh
    conv=>whnf
    exact(Ends.pure [] (by repeat' (first|exact True.intro|exact .bool_of (few26S_false hc (few26R_3 hck (by intro h;simp at hh;omega))).symm|exact .A|exact LeL.fr rfl|refine .tupL ?_|refine .aggL ?_|refine⟨?_,?_⟩)) (by simp))
   ·rename_i hh
    conv=>whnf
    exact⟨⟨k + 1,by omega,fun j hj hlt=>by
     rcases Nat.lt_or_ge j k with h|h
     ·exact hzk j hj h
     ·obtain rfl:j=k:=by omega
      simp at hh;omega⟩,(Wk.i (by repeat' (first|exact LHa|exact .int_of (wrap64_succ hck hgk)|exact .A|exact LeL.fr rfl|exact LHb|refine Or.inl ⟨by simp,_,rfl,?_⟩|exact Or.inr ⟨by simp,_,_,_,_,rfl⟩|refine⟨rfl,rfl,rfl,rfl,rfl,rfl,?_⟩|refine⟨?_,?_⟩)) (by omega)),by simp only;omega⟩
  rename_i hck
  have hck:k=l[i].attrs.path.length:=by simp at hck;omega
  have hX:few26R l[i]=true:=by
   rw[few26R,hU,few26P,List.all_eq_true.2 (fun x hx=>by obtain⟨j,hj,rfl⟩:=List.getElem_of_mem hx;exact decide_eq_true (hzk j hj (by omega)))]
   rfl
  conv=>whnf
  exact⟨⟨i + 1,by omega,fun j hj hlt=>by
   rcases Nat.lt_or_ge j i with h|h
   ·exact hz j hj h
   ·obtain rfl:j=i:=by omega
    exact hX⟩,(Wk.i (by repeat' (first|exact LHa|exact .int_of (wrap64_succ hc hgl)|exact .A|exact LeL.fr rfl|exact LHb|refine Or.inl ⟨by simp,_,rfl,?_⟩|exact Or.inr ⟨by simp,_,_,_,_,rfl⟩|refine⟨rfl,rfl,rfl,rfl,rfl,rfl,?_⟩|refine⟨?_,?_⟩)) (by omega)),by simp only;omega⟩
 rename_i hc
 have hc:i=l.length:=by simp at hc;omega
 subst hc
 conv=>whnf
 intro _
 conv=>whnf
 exact(Ends.pure [] (by repeat' (first|exact True.intro|exact .bool_of (by rw[few26S,List.all_eq_true.2 (fun x hx=>by obtain⟨j,hj,rfl⟩:=List.getElem_of_mem hx;exact hz j hj hj)];simp)|exact .A|exact LeL.fr rfl|refine .tupL ?_|refine .aggL ?_|refine⟨?_,?_⟩)) (by simp))
end
section
open Go.Proofs.Tryz (prog)
def sf1:SelfL:=⟨1,1,9⟩
def a5:Attrs:={ noA with next:=5 }
def aW:Attrs:={ noA with path:=[⟨false,[1]⟩],next:=9 }
def rtW:Route:=⟨ten24,a5,noPe⟩
def rtD:Route:=⟨ten24,a5,pe2⟩
def mW:List (Prefix × Attrs):=[(ten24,aW)]
theorem ckW:checkU ⟨[],[ten24],aW⟩=0:=by
 have hm:mayU ⟨[],[ten24],aW⟩=true:=by
  simp only[mayU,rise0_24,rise1_24 (show prefOk ten24=true by decide),apartP,saidU]
  decide
 rw[checkU,if_pos hm,if_neg (by decide)]
theorem sayO_bind (s:SelfL) (pe:Peer) (pol:Policy) (r:Route):sayO s pe pol r=(sayK s pe pol r 6).bind fun a=>if checkU ⟨[],[r.pfx],a⟩=0 then some a else none:=rfl
theorem sayW:sayO sf1 pe2 polE rtW=some aW:=by
 have h6:sayK sf1 pe2 polE rtW 6=some aW:=by decide
 rw[sayO_bind,h6]
 show(if checkU ⟨[],[ten24],aW⟩=0 then some aW else none)=some aW
 rw[if_pos ckW]
theorem sayD:sayO sf1 pe2 polE rtD=none:=by
 have h6:sayK sf1 pe2 polE rtD 6=none:=by decide
 rw[sayO_bind,h6];rfl
theorem nowW:nowL sf1 pe2 polE [rtW]=mW:=by simp only[nowL,List.filterMap_cons,List.filterMap_nil,sayW];rfl
theorem nowD:nowL sf1 pe2 polE [rtD]=[]:=by simp only[nowL,List.filterMap_cons,List.filterMap_nil,sayD];rfl
theorem sort1 (p:Prefix):sortPs [p]=[p]:=sortPs_self (by simp)
theorem sort0:sortPs []=[]:=sortPs_self (by simp)
theorem keysW:sortPs (keysE mW)=[ten24]:=sort1 ten24
theorem upd_a:updP [] mW=[⟨[],[ten24],aW⟩]:=by
 unfold updP
 rw[keysW,show keysE ([]:List (Prefix × Attrs))=[]from rfl,sort0]
 decide
theorem upd_b:updP mW mW=[]:=by
 unfold updP
 rw[keysW]
 decide
theorem upd_c:updP mW []=[⟨[ten24],[],noA⟩]:=by
 unfold updP
 rw[keysW,show keysE ([]:List (Prefix × Attrs))=[]from rfl,sort0]
 decide
theorem upd_d:updP [] []=[]:=by
 unfold updP
 rw[show keysE ([]:List (Prefix × Attrs))=[]from rfl,sort0]
 decide
theorem a5_small:smallA a5:=⟨by decide,by decide,by decide⟩
theorem okW:okT [rtW]=true:=by decide
theorem okD:okT [rtD]=true:=by decide
theorem okWW:okT [rtW,rtW]=false:=by decide
end
section
open Go.Proofs.Tryz (prog)
attribute [local irreducible] CallV RoundV aggK
theorem rt_small (r:Route) (h:smallA r.attrs):∀x∈[r],smallA x.attrs:=by simpa using h
theorem encUt2_free (fr:Bool) (l:List Upd) (n:Int):Free (.tup [encUt fr l,.int .i64 n]):=.tup (by intro v hv;simp at hv;rcases hv with rfl|rfl;exact encUt_free _ _;exact .int)
theorem rt_free (r:Route):∀v∈cellsRt false r,Free v:=fun v hv=>rowsRt_free [r] _ (by simp) v hv
theorem works26_ok:PCon prog 10 [] (.bool true):=by
 have hA:=(tell_B sf1 pe2 polE [] (by decide) [rtW] (by decide) (rt_small _ a5_small) okW).callV
 rw[nowW,upd_a]at hA
 have hB:=(tell_B sf1 pe2 polE mW (by decide) [rtW] (by decide) (rt_small _ a5_small) okW).callV
 rw[nowW,upd_b]at hB
 have hC:=(tell_B sf1 pe2 polE mW (by decide) [] (by decide) (by simp) (by decide)).callV
 rw[show nowL sf1 pe2 polE []=[]from rfl,upd_c]at hC
 have hD:=(tell_B sf1 pe2 polE [] (by decide) [rtD] (by decide) (rt_small _ a5_small) okD).callV
 rw[nowD,upd_d]at hD
 have hE:=tell_bad sf1 pe2 polE [] [rtW,rtW] (by simp;exact a5_small) okWW
 have n0:=num26_ok 0
 have n2:=num26_ok 2
 have hnew:=newO_ok sf1 pe2 polE (by decide)
 refine callV_of (fn:=Go.Proofs.Tryz.f10) (body:=_) tab_ok mixed rfl rfl (by decide) (by simp[Go.Proofs.Tryz.f10]) ?_
 conv=>whnf
 refine callV_frame (nx:=2) (n0:=0) id hnew ⟨.fr rfl,.fr rfl,.aggL ⟨.snil_sl,.fr rfl,trivial⟩,trivial⟩ (LeH.nil (by omega) (fun _ h=>by omega) (by simp)) (fun b hb=>by omega) (fun b hb=>by omega) ?_
 rintro v h' nx' ⟨rfl,rfl,rfl⟩ _
 refine⟨.tup [.ptr 2 0,.int .i64 0],[(2,varOut sf1 pe2 polE []),(0,some (.var true 31 (cellsP ten24))),(1,some (.var true 26 (cellsPe pe2)))],.tup ⟨.ptr rfl,.free .int,trivial⟩,(by repeat' (first|exact True.intro|exact Or.inr ⟨by decide,rfl⟩|exact Or.inl ⟨0,rfl,by omega,_,rfl,.var (cellsOut_free _ _ _ _)⟩|refine⟨?_,?_⟩)),?_⟩
 conv=>whnf
 refine callV_freeze (args':=[.ptr 2 0,encRts [rtW]]) [4] (h':=[(2,varOut sf1 pe2 polE []),(0,some (.var true 31 (cellsP ten24))),(1,some (.var true 26 (cellsPe pe2))),(3,some (.var true 37 (cellsRt false rtW)))]) (LeH.i (by repeat' (first|exact LHa|exact LeL.freeV (cellsOut_free _ _ _ _)|exact⟨.fr rfl,.fr rfl,.fr rfl,.snil_sl,.fr rfl,.fr rfl,.fr rfl,.fr rfl,.fr rfl,.snil_sl,.fr rfl,.fr rfl,.fr rfl,.fr rfl,trivial⟩|exact .A|exact LeL.fr rfl|exact LHb|refine Or.inl ⟨by simp,_,rfl,?_⟩|exact Or.inr ⟨by simp,_,_,_,_,rfl⟩|refine⟨rfl,rfl,rfl,rfl,rfl,rfl,?_⟩|refine⟨?_,?_⟩)) (Nat.le_refl _) (by intro z hz;simp only[List.mem_cons,List.not_mem_nil,or_false]at hz;rcases hz with rfl<;>exact ne_none_of rfl)) ⟨.ptr rfl (by decide),LeV.fresh_off (LeV.freezeR (fr:=true) (ys:=rowsRt [rtW]) (by simp) rfl (by simp) ⟨⟨.fr rfl,.fr rfl,.fr rfl,.snil_sl,.fr rfl,.fr rfl,.fr rfl,.fr rfl,.fr rfl,.snil_sl,.fr rfl,.fr rfl,.fr rfl,.fr rfl,trivial⟩,trivial⟩),trivial⟩ ?_
 refine callV_out hA rfl (cellsOut_free _ _ _ _) (cellsOut_free _ _ _ _) ⟨.ptr rfl (by omega),.fr rfl,trivial⟩ ?_
 rintro v rfl
 refine⟨encUt2_free _ _ _,?_⟩
 show _
 conv=>whnf
 refine callV_freeze (args':=[.ptr 2 0,encRts [rtW]]) [5] (h':=[(2,varOut sf1 pe2 polE mW),(0,some (.var true 31 (cellsP ten24))),(1,some (.var true 26 (cellsPe pe2))),(3,some (.var true 37 (cellsRt false rtW)))]) (LeH.i (by repeat' (first|exact LHa|exact LeL.freeV (cellsOut_free _ _ _ _)|exact⟨.fr rfl,.fr rfl,.fr rfl,.snil_sl,.fr rfl,.fr rfl,.fr rfl,.fr rfl,.fr rfl,.snil_sl,.fr rfl,.fr rfl,.fr rfl,.fr rfl,trivial⟩|exact .A|exact LeL.fr rfl|exact LHb|refine Or.inl ⟨by simp,_,rfl,?_⟩|exact Or.inr ⟨by simp,_,_,_,_,rfl⟩|refine⟨rfl,rfl,rfl,rfl,rfl,rfl,?_⟩|refine⟨?_,?_⟩)) (Nat.le_refl _) (by intro z hz;simp only[List.mem_cons,List.not_mem_nil,or_false]at hz;rcases hz with rfl<;>exact ne_none_of rfl)) ⟨.ptr rfl (by decide),LeV.fresh_off (LeV.freezeR (fr:=true) (ys:=rowsRt [rtW]) (by simp) rfl (by simp) ⟨LeL.freeV (rt_free rtW),trivial⟩),trivial⟩ ?_
 refine callV_out hB rfl (cellsOut_free _ _ _ _) (cellsOut_free _ _ _ _) ⟨.ptr rfl (by omega),.fr rfl,trivial⟩ ?_
 rintro v rfl
 refine⟨encUt2_free _ _ _,?_⟩
 show _
 conv=>whnf
 refine callV_out hC rfl (cellsOut_free _ _ _ _) (cellsOut_free _ _ _ _) ⟨.ptr rfl (by omega),.snil_sl,trivial⟩ ?_
 rintro v rfl
 refine⟨encUt2_free _ _ _,?_⟩
 show _
 conv=>whnf
 refine callV_freeze (args':=[.ptr 2 0,encRts [rtD]]) [6] (h':=[(2,varOut sf1 pe2 polE []),(0,some (.var true 31 (cellsP ten24))),(1,some (.var true 26 (cellsPe pe2))),(3,some (.var true 37 (cellsRt false rtW)))]) (LeH.i (by repeat' (first|exact LHa|exact LeL.freeV (cellsOut_free _ _ _ _)|exact⟨.fr rfl,.fr rfl,.fr rfl,.snil_sl,.fr rfl,.fr rfl,.fr rfl,.fr rfl,.fr rfl,.snil_sl,.fr rfl,.fr rfl,.fr rfl,.fr rfl,trivial⟩|exact .A|exact LeL.fr rfl|exact LHb|refine Or.inl ⟨by simp,_,rfl,?_⟩|exact Or.inr ⟨by simp,_,_,_,_,rfl⟩|refine⟨rfl,rfl,rfl,rfl,rfl,rfl,?_⟩|refine⟨?_,?_⟩)) (Nat.le_refl _) (by intro z hz;simp only[List.mem_cons,List.not_mem_nil,or_false]at hz;rcases hz with rfl<;>exact ne_none_of rfl)) ⟨.ptr rfl (by decide),LeV.fresh_off (LeV.freezeR (fr:=true) (ys:=rowsRt [rtD]) (by simp) rfl (by simp) ⟨⟨.fr rfl,.fr rfl,.fr rfl,.snil_sl,.fr rfl,.fr rfl,.fr rfl,.fr rfl,.fr rfl,.snil_sl,.fr rfl,.fr rfl,.fr rfl,.fr rfl,trivial⟩,trivial⟩),trivial⟩ ?_
 refine callV_out hD rfl (cellsOut_free _ _ _ _) (cellsOut_free _ _ _ _) ⟨.ptr rfl (by omega),.fr rfl,trivial⟩ ?_
 rintro v rfl
 refine⟨encUt2_free _ _ _,?_⟩
 show _
 conv=>whnf
 refine callV_freeze (args':=[.ptr 2 0,encRts [rtW,rtW]]) [7] (h':=[(2,varOut sf1 pe2 polE []),(0,some (.var true 31 (cellsP ten24))),(1,some (.var true 26 (cellsPe pe2))),(3,some (.var true 37 (cellsRt false rtW)))]) (LeH.i (by repeat' (first|exact LHa|exact LeL.freeV (cellsOut_free _ _ _ _)|exact⟨.fr rfl,.fr rfl,.fr rfl,.snil_sl,.fr rfl,.fr rfl,.fr rfl,.fr rfl,.fr rfl,.snil_sl,.fr rfl,.fr rfl,.fr rfl,.fr rfl,trivial⟩|exact .A|exact LeL.fr rfl|exact LHb|refine Or.inl ⟨by simp,_,rfl,?_⟩|exact Or.inr ⟨by simp,_,_,_,_,rfl⟩|refine⟨rfl,rfl,rfl,rfl,rfl,rfl,?_⟩|refine⟨?_,?_⟩)) (Nat.le_refl _) (by intro z hz;simp only[List.mem_cons,List.not_mem_nil,or_false]at hz;rcases hz with rfl<;>exact ne_none_of rfl)) ⟨.ptr rfl (by decide),LeV.fresh_off (LeV.freezeR (fr:=true) (ys:=rowsRt [rtW,rtW]) (by simp) rfl (by simp) ⟨LeL.freeV (rt_free rtW),LeL.freeV (rt_free rtW),trivial⟩),trivial⟩ ?_
 refine callV_out hE rfl (cellsOut_free _ _ _ _) (cellsOut_free _ _ _ _) ⟨.ptr rfl (by omega),.fr rfl,trivial⟩ ?_
 rintro v rfl
 refine⟨.tup (by simp;exact⟨.snil,.int⟩),?_⟩
 show _
 conv=>whnf
 refine callV_pure n0 ⟨.fr rfl,trivial⟩ ?_
 conv=>whnf
 refine callV_pure n0 ⟨.fr rfl,trivial⟩ ?_
 conv=>whnf
 refine callV_pure n0 ⟨.fr rfl,trivial⟩ ?_
 conv=>whnf
 refine callV_pure n0 ⟨.fr rfl,trivial⟩ ?_
 conv=>whnf
 refine callV_pure n0 ⟨.fr rfl,trivial⟩ ?_
 conv=>whnf
 refine callV_pure n2 ⟨.fr rfl,trivial⟩ ?_
 conv=>whnf
 intro _
 conv=>whnf
 refine⟨rfl,_,⟨by decide,rfl⟩,?_⟩
 conv=>whnf
 intro _
 conv=>whnf
 refine⟨rfl,_,⟨by decide,rfl⟩,?_⟩
 conv=>whnf
 refine⟨rfl,_,⟨by decide,rfl⟩,?_⟩
 conv=>whnf
 intro _
 conv=>whnf
 intro _
 conv=>whnf
 intro _
 conv=>whnf
 refine⟨rfl,_,⟨by decide,rfl⟩,?_⟩
 conv=>whnf
 intro _
 conv=>whnf
 intro _
 conv=>whnf
 exact(Ends.pA)
end
section
open Go.Proofs.Tryz (prog)
attribute [local irreducible] CallV RoundV aggK
structure RelO (s:SelfL) (pe:Peer) (pol:Policy) (m:List (Prefix × Attrs)) (o:OutS):Prop where
 eself:o.self=s
 epeer:o.peer=pe
 epol:o.pol=pol
 perm:o.told.Perm m
 ris:RisE o.told
 few:m.length≤1000
 good:∀e∈m,rightA e.2=true
theorem RelO.nod {s:SelfL} {pe:Peer} {pol:Policy} {m:List (Prefix × Attrs)} {o:OutS} (h:RelO s pe pol m o):NodE m:=(h.perm.map _).nodup_iff.1 h.ris.nod
theorem RelO.get {s:SelfL} {pe:Peer} {pol:Policy} {m:List (Prefix × Attrs)} {o:OutS} (h:RelO s pe pol m o) {i:Nat} (hi:i < o.told.length):getE m o.told[i].1=some o.told[i].2:=
 mem_getE h.nod (h.perm.mem_iff.1 (List.getElem_mem hi))
theorem RelO.len {s:SelfL} {pe:Peer} {pol:Policy} {m:List (Prefix × Attrs)} {o:OutS} (h:RelO s pe pol m o):o.told.length=m.length:=h.perm.length_eq
theorem RelO.at {s:SelfL} {pe:Peer} {pol:Policy} {m:List (Prefix × Attrs)} {o:OutS} (h:RelO s pe pol m o) {i:Nat} (hi:i < o.told.length):rightA o.told[i].2=true:=h.good _ (h.perm.mem_iff.1 (List.getElem_mem hi))
end
section
open Go.Proofs.Tryz (prog)
attribute [local irreducible] CallV RoundV aggK
theorem RelO.new {s:SelfL} {pe:Peer} {pol:Policy} (h:newO s pe pol=true):RelO s pe pol [] (newOS s pe pol):=by
 rw[newOS,if_pos h]
 exact⟨rfl,rfl,rfl,.refl _,by simp[RisE,keysE],by simp,by simp⟩
end
section
open Go.Proofs.Tryz (prog)
theorem keys_sorted {l m:List (Prefix × Attrs)} (h:RisE l) (hp:l.Perm m):sortPs (keysE m)=keysE l:=by
 have h1:(keysE m).Perm (keysE l):=(hp.map _).symm
 rw[sortPs_perm h1]
 exact sorted_eq (List.mergeSort_perm _ _) (sortPs_sorted (keysE l)) (List.Pairwise.imp (fun h=>Nat.le_of_lt h) h)
theorem comKs_eq {m n now was:List (Prefix × Attrs)} (hn:∀e∈now,getE n e.1=some e.2) (hm:∀p,getE m p=getE was p):comKs (keysE now) m n=comK was now:=by
 unfold comKs comK
 induction now with
 | nil=>rfl
 | cons e r ih=>
  have he:=hn e (by simp)
  have ih:=ih fun e' h'=>hn e' (by simp[h'])
  have h1:comOne m n e.1=if getE was e.1=some e.2 then none else some e:=by rw[comOne,he,hm];rfl
  show List.filterMap (comOne m n) (e.1 :: keysE r)=_
  rw[List.filterMap_cons,h1,List.filter_cons]
  by_cases hc:getE was e.1=some e.2
  ·simp[hc];exact ih
  ·simp[hc];exact ih
theorem upd_eq {m n was now:List (Prefix × Attrs)} (hw:RisE was) (hwp:was.Perm m) (hn:RisE now) (hnp:now.Perm n):updP m n=updO was now:=by
 have hNn:NodE n:=(hnp.map _).nodup_iff.1 hn.nod
 unfold updP updO
 rw[keys_sorted hw hwp,keys_sorted hn hnp,comKs_eq (was:=was) (fun e he=>mem_getE hNn (hnp.mem_iff.1 he)) (fun p=>(getE_perm hw.nod hwp p).symm)]
 have:goKs (keysE was) n=goK was now:=by
  unfold goKs goK
  refine List.filter_congr fun p _=>?_
  have:p∈keysE n↔p∈keysE now:=(hnp.map _).mem_iff.symm
  simp[this]
 rw[this]
theorem RelO.tell {s:SelfL} {pe:Peer} {pol:Policy} {m:List (Prefix × Attrs)} {o:OutS} (h:RelO s pe pol m o) {l:List Route} (hl:l.length≤1000) (hok:okT l=true):RelO s pe pol (nowL s pe pol l) (tellS o l):=by
 obtain⟨h1,h2⟩:=nowR_perm (o:=o) hok
 rw[h.eself,h.epeer,h.epol]at h2
 rw[tellS,if_pos hok]
 refine⟨h.eself,h.epeer,h.epol,h2,h1,Nat.le_trans (List.length_filterMap_le _ _) hl,fun e he=>nowR_right e (h2.mem_iff.2 he)⟩
theorem RelO.upd {s:SelfL} {pe:Peer} {pol:Policy} {m:List (Prefix × Attrs)} {o:OutS} (h:RelO s pe pol m o) {l:List Route} (hl:l.length≤1000) (hok:okT l=true):updP m (nowL s pe pol l)=tellU o l:=by
 have ht:=h.tell hl hok
 rw[tellS,if_pos hok]at ht
 rw[tellU,if_pos hok]
 exact upd_eq h.ris h.perm ht.ris ht.perm
theorem comS_right {out:List (List Prefix × Attrs)} {e:Prefix × Attrs} {P:Attrs→Prop} (h:∀x∈out,P x.2) (he:P e.2):∀x∈comS out e,P x.2:=by
 intro x hx
 unfold comS at hx
 split at hx
 ·rcases List.mem_or_eq_of_mem_set hx with hx|rfl
  ·exact h x hx
  ·exact he
 ·rcases List.mem_append.1 hx with hx|hx
  ·exact h x hx
  ·obtain rfl:=List.mem_singleton.1 hx;exact he
theorem comU_right {P:Attrs→Prop} {l:List (Prefix × Attrs)} (h:∀e∈l,P e.2):∀x∈comU l,P x.2:=by
 have key:∀(l:List (Prefix × Attrs)) (out:List (List Prefix × Attrs)),(∀e∈l,P e.2)→(∀x∈out,P x.2)→∀x∈l.foldl comS out,P x.2:=by
  intro l
  induction l with
  | nil=>intro out _ h;exact h
  | cons e r ih=>intro out hl ho;exact ih _ (fun e' h'=>hl e' (by simp[h'])) (comS_right ho (hl e (by simp)))
 exact key l [] h (by simp)
end
section
open Go.Proofs.Tryz (prog)
attribute [local irreducible] CallV RoundV VC VH
section
variable {G : Gh} {w w' : World} {ad : Addr} {u0 u1 : Value}
structure ShU (y x:Upd):Prop where
 new:y.new.length=x.new.length
 legs:Alike y.attrs.path x.attrs.path
end
def ShUL (l x:List Upd):Prop:=x.length=l.length∧∀i (h1:i < x.length) (h2:i < l.length),ShU x[i] l[i]
theorem ShUL.refl (l:List Upd):ShUL l l:=⟨rfl,fun i h1 h2=>⟨rfl,rfl⟩⟩
theorem ShUL.trans {a b c:List Upd} (h:ShUL a b) (k:ShUL b c):ShUL a c:=⟨k.1.trans h.1,fun i h1 h2=>by
 have h3:i < b.length:=by rw[h.1];exact h2
 exact⟨(k.2 i h1 h3).new.trans (h.2 i h3 h2).new,(k.2 i h1 h3).legs.trans (h.2 i h3 h2).legs⟩⟩
inductive Fixed:V→Prop
 | int {k n}:Fixed (.int k n)
 | bool {b}:Fixed (.bool b)
 | pin {u}:Fixed (.pin u .any)
theorem Fixed.vr {v:V} (h:Fixed v) {G G':Gh} {w w':World} {u:Value} (hv:vr G w v u):vr G' w' v u:=by
 cases h with
 | int=>cases hv;constructor
 | bool=>cases hv;constructor
 | pin=>cases hv;exact .pin _ _ (.any _)
theorem LeV.pinned {h:Heap} {nx nx':Nat} {ρ:Nat→Nat} {Z:List Nat} {u:Value} {v:V}:LeV h nx ρ nx' Z (.pin u v) (.pin u .any):=fun G w x hr hv=>by cases hv;exact .pin _ _ (.any _)
def Fixeds (s:St):List (Nat × V)→Prop
 | []=>True
 | (i,v) :: r=>(Fixed v∧s.get i=v)∧Fixeds s r
theorem Fixeds.out {s:St}:∀{t:List (Nat × V)},Fixeds s t→∀i,look t i=.any∨(Fixed (look t i)∧s.get i=look t i)
 | [],_,i=>.inl rfl
 | (j,v) :: r,h,i=>by
  rw[look_cons]
  by_cases hij:j=i
  ·subst hij;rw[if_pos rfl];exact .inr h.1
  ·rw[if_neg hij];exact Fixeds.out h.2 i
end
section
open Go.Proofs.Tryz (prog)
attribute [local irreducible] CallV RoundV aggK VC VM CallB VH
instance {fr l}:FreeI (encUt fr l):=⟨⟨encUt_free fr l⟩⟩
end
section
open Go.Proofs.Tryz (prog)
attribute [local irreducible] CallV RoundV aggK
theorem RelO.clear {s:SelfL} {pe:Peer} {pol:Policy} {m:List (Prefix × Attrs)} {o:OutS} (h:RelO s pe pol m o):RelO s pe pol [] { o with told:=[] }:=⟨h.eself,h.epeer,h.epol,.refl _,by simp[RisE,keysE],by simp,by simp⟩
end
section
open Go.ChangeShapes Go.WideShapes
open Go.Proofs.Tryz (prog)
theorem rep_route:RepOk prog 37 (cellsRt false):=fun enc w sp fuel cs x h=>by
 have ht:=Go.Proofs.Tryz.underlying37
 obtain⟨xs,n,_,_,hlen,_,_⟩:=DataW.trod_struct ht h
 have hl:cs.length=14:=hlen.trans (by kernel_rfl)
 obtain⟨p,h0,o0⟩:=field_of ht h (f:=_) (i:=0) rfl rep_prefix
 obtain⟨a,h1,o1⟩:=field_of ht h (f:=_) (i:=1) rfl rep_attrs
 obtain⟨q,h2,o2⟩:=field_of ht h (f:=_) (i:=2) rfl rep_peer
 have hx:prog.cellsOf 31=2:=by kernel_rfl
 have hz:prog.cellsOf 35=8:=by kernel_rfl
 have hy:prog.cellsOf 26=4:=by kernel_rfl
 change vrs (G0 w) w (cellsP p) ((cs.drop 0).take (prog.cellsOf 31))at h0
 change ∀u∈(cs.drop 0).take (prog.cellsOf 31),u.oneCell'=true at o0
 change vrs (G0 w) w (cellsA false a) ((cs.drop 2).take (prog.cellsOf 35))at h1
 change ∀u∈(cs.drop 2).take (prog.cellsOf 35),u.oneCell'=true at o1
 change vrs (G0 w) w (cellsPe q) ((cs.drop 10).take (prog.cellsOf 26))at h2
 change ∀u∈(cs.drop 10).take (prog.cellsOf 26),u.oneCell'=true at o2
 rw[hx,List.drop_zero]at h0 o0
 rw[hz]at h1 o1
 rw[hy,List.take_of_length_le (by rw[List.length_drop];omega)]at h2 o2
 have e:cs.take 2 ++ (cs.drop 2).take 8 ++ cs.drop 10=cs:=by
  have e1:(cs.drop 2).take 8 ++ (cs.drop 2).drop 8=cs.drop 2:=List.take_append_drop 8 _
  rw[List.drop_drop]at e1
  rw[List.append_assoc,e1,List.take_append_drop]
 refine⟨⟨p,a,q⟩,?_,?_⟩
 ·have:=(h0.append h1).append h2
  rw[e]at this
  exact this
 ·intro v hv
  rw[← e]at hv
  rcases List.mem_append.1 hv with hv|hv
  ·rcases List.mem_append.1 hv with hv|hv
   ·exact o0 v hv
   ·exact o1 v hv
  ·exact o2 v hv
end
section
open Go.ChangeShapes Go.WideShapes
open Go.Proofs.Tryz (prog)
theorem rep_routes:RepOk prog 39 (fun l:List Route=>[encRts l]):=
 rep_slice (cells:=cellsRt false) Go.Proofs.Tryz.underlying39 (by kernel_rfl) (by decide) (fun _=>rfl) rep_route
def encRtss (l:List (List Route)):V:=.sl false 1 (l.map fun r=>[encRts r])
theorem arg_routess:ArgOk prog 77 encRtss:=arg_slice Go.Proofs.Tryz.underlying77 (rep_slice (cells:=fun r:List Route=>[encRts r]) Go.Proofs.Tryz.underlying77 (by kernel_rfl) (by decide) (fun _=>rfl) rep_routes)
theorem read_routess:prog.readableRec 77=true∧77 < prog.types.size:=⟨by kernel_rfl,of_decide_eq_true (by kernel_rfl)⟩
end
section
open Go.Proofs.Tryz (prog)
abbrev MapE:=List (Prefix × Attrs)
def takesM (n:MapE) (U:List Upd):MapE:=U.foldl (fun n u=>takeM n u.gone u.new u.attrs) n
theorem takesM_app (n:MapE) (A B:List Upd):takesM n (A ++ B)=takesM (takesM n A) B:=by simp[takesM]
theorem takesM_succ {n:MapE} {U:List Upd} {k:Nat} (h:k < U.length):takesM n (U.take (k + 1))=takeM (takesM n (U.take k)) U[k].gone U[k].new U[k].attrs:=by
 rw[List.take_succ_eq_append_getElem h,takesM_app];rfl
theorem nod_takes {U:List Upd}:∀{n:MapE},NodE n→NodE (takesM n U):=by
 induction U with
 | nil=>intro n h;exact h
 | cons u U ih=>intro n h;exact ih (nod_take h)
theorem getE_goes {q:Prefix}:∀{G:List (List Prefix)} {n:MapE},getE (takesM n (goneU G)) q=if q∈G.flatten then none else getE n q
 | [],n=>by simp[takesM,goneU]
 | g :: G,n=>by
  show getE (takesM (takeM n g [] noA) (goneU G)) q=_
  rw[getE_goes,getE_take]
  by_cases h1:q∈g<;>by_cases h2:q∈G.flatten<;>simp[h1,h2]
def pairs (C:List (List Prefix × Attrs)):MapE:=C.flatMap fun x=>x.1.map fun p=>(p,x.2)
theorem getE_pair {l:List Prefix} {a:Attrs} {q:Prefix}:getE (l.map fun p=>(p,a)) q=if q∈l then some a else none:=by
 induction l with
 | nil=>rfl
 | cons p l ih=>
  rw[List.map_cons,getE_cons,ih]
  by_cases h:q=p<;>simp[h]
theorem getE_comes {q:Prefix}:∀{C:List (List Prefix × Attrs)} {n:MapE},NodE (pairs C)→getE (takesM n (newU C)) q=(getE (pairs C) q).or (getE n q)
 | [],n,_=>by simp[takesM,newU,pairs,getE]
 | x :: C,n,hn=>by
  have hs:pairs (x :: C)=(x.1.map fun p=>(p,x.2))++ pairs C:=by simp[pairs]
  have hn2:NodE (pairs C):=by
   rw[hs]at hn
   unfold NodE keysE at hn ⊢
   rw[List.map_append]at hn
   exact(List.nodup_append.1 hn).2.1
  show getE (takesM (takeM n [] x.1 x.2) (newU C)) q=_
  rw[getE_comes hn2,getE_take,hs,getE_app,getE_pair]
  by_cases h1:q∈x.1
  ·have:getE (pairs C) q=none:=by
    rw[getE_none]
    intro hq
    rw[hs]at hn
    unfold NodE keysE at hn
    rw[List.map_append,List.nodup_append]at hn
    refine hn.2.2 q ?_ q hq rfl
    simpa using h1
   simp[h1,this]
  ·simp[h1]
theorem set_perm {α β:Type} {f:α→List β} {y:α} {e:β}:∀{l:List α} {k:Nat} (h:k < l.length),f y=f l[k]++ [e]→((l.set k y).flatMap f).Perm (l.flatMap f ++ [e])
 | x :: l,0,_,hy=>by
  have hy:f y=f x ++ [e]:=hy
  show(f y ++ l.flatMap f).Perm (f x ++ l.flatMap f ++ [e])
  rw[hy,List.append_assoc,List.append_assoc]
  exact List.Perm.append_left _ List.perm_append_comm
 | x :: l,k + 1,h,hy=>by
  have ih:=set_perm (l:=l) (k:=k) (by simpa using h) (by simpa using hy)
  show(f x ++ (l.set k y).flatMap f).Perm (f x ++ l.flatMap f ++ [e])
  rw[List.append_assoc]
  exact List.Perm.append_left _ ih
theorem goS_perm (out:List (List Prefix)) (p:Prefix):(goS out p).flatten.Perm (out.flatten ++ [p]):=by
 unfold goS
 split
 ·rename_i h
  have hk:out.length - 1 < out.length:=by omega
  have:=set_perm (f:=fun x:List Prefix=>x) (l:=out) (k:=out.length - 1) hk (y:=out.getD (out.length - 1) []++ [p]) (e:=p) (by simp[hk])
  simpa[List.flatMap_id']using this
 ·simp
theorem goU_perm (K:List Prefix):(goU K).flatten.Perm K:=by
 have key:∀(K:List Prefix) (out:List (List Prefix)),(K.foldl goS out).flatten.Perm (out.flatten ++ K):=by
  intro K
  induction K with
  | nil=>intro out;simp
  | cons p K ih=>
   intro out
   refine(ih (goS out p)).trans ?_
   refine((goS_perm out p).append_right K).trans ?_
   rw[List.append_assoc];exact .refl _
 simpa[goU]using key K []
theorem comS_perm (out:List (List Prefix × Attrs)) (e:Prefix × Attrs):(pairs (comS out e)).Perm (pairs out ++ [e]):=by
 unfold comS
 split
 ·rename_i h
  have hc:comF e.1 e.2 out[out.findIdx (comF e.1 e.2)]=true:=List.findIdx_getElem (w:=h)
  have h2:out[out.findIdx (comF e.1 e.2)].2=e.2:=by
   unfold comF at hc
   simp only[Bool.and_eq_true,decide_eq_true_eq]at hc
   exact hc.1
  generalize hk:out.findIdx (comF e.1 e.2)=k at *
  refine set_perm h ?_
  simp[h,h2]
 ·simp[pairs]
theorem comU_perm (L:MapE):(pairs (comU L)).Perm L:=by
 have key:∀(L:MapE) (out:List (List Prefix × Attrs)),(pairs (L.foldl comS out)).Perm (pairs out ++ L):=by
  intro L
  induction L with
  | nil=>intro out;simp
  | cons e L ih=>
   intro out
   refine(ih (comS out e)).trans ?_
   refine((comS_perm out e).append_right L).trans ?_
   rw[List.append_assoc];exact .refl _
 simpa[comU,pairs]using key L []
theorem goS_check {out:List (List Prefix)} {p:Prefix} (h:∀g∈out,checkU ⟨g,[],noA⟩=0) (hp:checkU ⟨[p],[],noA⟩=0):∀g∈goS out p,checkU ⟨g,[],noA⟩=0:=by
 intro g hg
 unfold goS at hg
 split at hg
 ·rename_i hc
  rcases List.mem_or_eq_of_mem_set hg with hg|rfl
  ·exact h g hg
  ·exact hc.2
 ·rcases List.mem_append.1 hg with hg|hg
  ·exact h g hg
  ·obtain rfl:=List.mem_singleton.1 hg;exact hp
theorem goU_check {K:List Prefix} (hp:∀p∈K,checkU ⟨[p],[],noA⟩=0):∀g∈goU K,checkU ⟨g,[],noA⟩=0:=by
 have key:∀(K:List Prefix) (out:List (List Prefix)),(∀p∈K,checkU ⟨[p],[],noA⟩=0)→(∀g∈out,checkU ⟨g,[],noA⟩=0)→∀g∈K.foldl goS out,checkU ⟨g,[],noA⟩=0:=by
  intro K
  induction K with
  | nil=>intro out _ h;exact h
  | cons p K ih=>intro out hK ho;exact ih _ (fun q hq=>hK q (by simp[hq])) (goS_check ho (hK p (by simp)))
 exact key K [] hp (by simp)
theorem comS_check {out:List (List Prefix × Attrs)} {e:Prefix × Attrs} (h:∀x∈out,checkU ⟨[],x.1,x.2⟩=0) (he:checkU ⟨[],[e.1],e.2⟩=0):∀x∈comS out e,checkU ⟨[],x.1,x.2⟩=0:=by
 intro x hx
 unfold comS at hx
 split at hx
 ·rename_i hk
  have hc:comF e.1 e.2 out[out.findIdx (comF e.1 e.2)]=true:=List.findIdx_getElem (w:=hk)
  unfold comF at hc
  simp only[Bool.and_eq_true,decide_eq_true_eq]at hc
  rcases List.mem_or_eq_of_mem_set hx with hx|rfl
  ·exact h x hx
  ·have h2:=hc.2
   unfold comF at hk
   simp only[List.getD_eq_getElem?_getD]
   rw[List.getElem?_eq_getElem (by unfold comF;exact hk)]
   exact h2
 ·rcases List.mem_append.1 hx with hx|hx
  ·exact h x hx
  ·obtain rfl:=List.mem_singleton.1 hx;exact he
theorem comU_check {L:MapE} (hp:∀e∈L,checkU ⟨[],[e.1],e.2⟩=0):∀x∈comU L,checkU ⟨[],x.1,x.2⟩=0:=by
 have key:∀(L:MapE) (out:List (List Prefix × Attrs)),(∀e∈L,checkU ⟨[],[e.1],e.2⟩=0)→(∀x∈out,checkU ⟨[],x.1,x.2⟩=0)→∀x∈L.foldl comS out,checkU ⟨[],x.1,x.2⟩=0:=by
  intro L
  induction L with
  | nil=>intro out _ h;exact h
  | cons e L ih=>intro out hL ho;exact ih _ (fun e' h'=>hL e' (by simp[h'])) (comS_check ho (hL e (by simp)))
 exact key L [] hp (by simp)
theorem nodup_len:∀{a b:List Prefix},a.Nodup→(∀x∈a,x∈b)→a.length≤b.length
 | [],b,_,_=>by simp
 | x :: a,b,hn,h=>by
  have hx:x∈b:=h x (by simp)
  have hn':=List.nodup_cons.1 hn
  have h1:=nodup_len (a:=a) (b:=b.erase x) hn'.2 (fun y hy=>(List.mem_erase_of_ne (fun e=>hn'.1 (by rw[← e];exact hy))).2 (h y (by simp[hy])))
  rw[List.length_erase_of_mem hx]at h1
  have:0 < b.length:=List.length_pos_of_mem hx
  simp only[List.length_cons]
  omega
theorem updP_self {n:MapE}:updP n n=[]:=by
 unfold updP
 have h1:goKs (sortPs (keysE n)) n=[]:=by
  unfold goKs
  rw[List.filter_eq_nil_iff]
  intro p hp
  have:=mem_sortPs.1 hp
  simp[this]
 have h2:comKs (sortPs (keysE n)) n n=[]:=by
  unfold comKs
  rw[List.filterMap_eq_nil_iff]
  intro p hp
  unfold comOne
  cases getE n p<;>simp
 rw[h1,h2]
 rfl
end
section
open Go.Proofs.Tryz (prog)
theorem ck_gone {p:Prefix} (h:prefOk p=true):checkU ⟨[p],[],noA⟩=0:=by
 have hm:mayU ⟨[p],[],noA⟩=true:=by
  simp[mayU,rise0_24,rise1_24 h,apartP,saidU,sameA_refl]
 have ha:(aA noA).length≤100:=by decide
 have hp:=(prefB_len p).2
 have hl:(bodyB ⟨[p],[],noA⟩).length≤200:=by
  simp only[bodyB,partsU,gB,aB,prefsB,List.flatten_cons,List.flatten_nil,List.flatMap_cons,List.flatMap_nil,List.append_nil,List.length_append,List.length_nil]
  simp only[twoB,List.length_cons,List.length_nil]
  omega
 rw[checkU,if_pos hm,if_neg (by omega)]
theorem ck_pref {p:Prefix} {a:Attrs} (h:checkU ⟨[],[p],a⟩=0):prefOk p=true:=by
 obtain⟨hm,_⟩:=checkU_zero h
 exact okPs_rise (mayU_out hm).2.1 p (by simp)
theorem takes_small {P:Attrs→Prop} {U:List Upd}:∀{n:MapE},(∀e∈n,P e.2)→(∀u∈U,P u.attrs)→∀e∈takesM n U,P e.2:=by
 induction U with
 | nil=>intro n h _;exact h
 | cons u U ih=>intro n h hu;exact ih (take_small h (hu u (by simp))) fun u' h'=>hu u' (by simp[h'])
theorem keys_takes {U:List Upd} {q:Prefix}:∀{n:MapE},q∈keysE (takesM n U)→q∈keysE n∨∃u∈U,q∈u.new:=by
 induction U with
 | nil=>intro n h;exact .inl h
 | cons u U ih=>
  intro n h
  rcases ih (n:=takeM n u.gone u.new u.attrs) h with h|⟨u',h1,h2⟩
  ·obtain⟨a,ha⟩:=key_getE h
   rw[getE_take]at ha
   by_cases h1:q∈u.new
   ·exact .inr ⟨u,by simp,h1⟩
   ·rw[if_neg h1]at ha
    split at ha
    ·cases ha
    ·exact .inl (getE_key ha)
  ·exact .inr ⟨u',by simp[h1],h2⟩
theorem keys_len {X Y:MapE} (hn:NodE X) (h:∀q∈keysE X,q∈keysE Y):X.length≤Y.length:=by
 have:=nodup_len hn h
 simpa[keysE]using this
theorem comOne_some {m n:MapE} {p:Prefix} {e:Prefix × Attrs} (h:comOne m n p=some e):e.1=p∧getE n p=some e.2∧getE m p ≠ some e.2:=by
 unfold comOne at h
 cases hn:getE n p with
 | none=>rw[hn]at h;cases h
 | some a=>
  rw[hn,Option.bind_some]at h
  split at h
  ·cases h
  ·cases h;exact⟨rfl,rfl,by assumption⟩
theorem comKs_mem {K:List Prefix} {m n:MapE} {e:Prefix × Attrs} (h:e∈comKs K m n):e.1∈K∧getE n e.1=some e.2∧getE m e.1 ≠ some e.2:=by
 obtain⟨p,hp,he⟩:=List.mem_filterMap.1 h
 obtain⟨rfl,h2,h3⟩:=comOne_some he
 exact⟨hp,h2,h3⟩
theorem comKs_keys {m n:MapE}:∀K:List Prefix,(keysE (comKs K m n)).Sublist K
 | []=>.slnil
 | p :: K=>by
  show(keysE (List.filterMap (comOne m n) (p :: K))).Sublist (p :: K)
  rw[List.filterMap_cons]
  cases h:comOne m n p with
  | none=>exact(comKs_keys K).cons _
  | some e=>
   show(e.1 :: keysE (comKs K m n)).Sublist (p :: K)
   rw[(comOne_some h).1]
   exact(comKs_keys K).cons_cons _
theorem nodP_sort {l:List Prefix} (h:l.Nodup):(sortPs l).Nodup:=(List.mergeSort_perm _ _).nodup_iff.2 h
structure ToldM (m:MapE):Prop where
 nod:NodE m
 len:m.length≤40
 ck:∀e∈m,checkU ⟨[],[e.1],e.2⟩=0
theorem ToldM.right {m:MapE} (h:ToldM m):∀e∈m,rightA e.2=true:=fun e he=>check_right (h.ck e he)
section
variable {m n' : MapE}
def Kg (m n':MapE):List Prefix:=goKs (sortPs (keysE m)) n'
def Lc (m n':MapE):MapE:=comKs (sortPs (keysE n')) m n'
theorem updP_eq (m n':MapE):updP m n'=goneU (goU (Kg m n'))++ newU (comU (Lc m n')):=rfl
theorem Kg_mem {q:Prefix}:q∈Kg m n'↔q∈keysE m∧q ∉ keysE n':=by
 simp[Kg,goKs,mem_sortPs]
theorem Lc_nod (h:NodE n'):NodE (Lc m n'):=List.Sublist.nodup (comKs_keys _) (nodP_sort h)
theorem Lc_get (h:NodE n') (q:Prefix):getE (Lc m n') q=if getE m q=getE n' q then none else getE n' q:=by
 cases hL:getE (Lc m n') q with
 | some a=>
  obtain⟨_,h2,h3⟩:=comKs_mem (getE_mem hL)
  rw[if_neg (by rw[h2];exact h3),h2]
 | none=>
  split
  ·rfl
  ·rename_i hne
   cases hn:getE n' q with
   | none=>rfl
   | some a=>
    have:(q,a)∈Lc m n':=List.mem_filterMap.2 ⟨q,mem_sortPs.2 (getE_key hn),by
     unfold comOne
     rw[hn,Option.bind_some,if_neg (by rw[← hn];exact hne)]⟩
    rw[mem_getE (Lc_nod h) this]at hL
    cases hL
variable {n : MapE}
theorem takes_all (hm:NodE m) (hp:n.Perm m) (h':NodE n'):(takesM n (updP m n')).Perm n':=by
 have hn:NodE n:=NodE.perm hm hp.symm
 refine perm_getE (nod_takes hn) h' fun q=>?_
 rw[updP_eq]
 have hP:NodE (pairs (comU (Lc m n'))):=NodE.perm (Lc_nod h') (comU_perm _).symm
 rw[takesM_app,getE_comes hP,getE_perm hP (comU_perm _),Lc_get h',getE_goes,getE_perm hn hp]
 have hK:q∈(goU (Kg m n')).flatten↔q∈keysE m∧q ∉ keysE n':=(goU_perm _).mem_iff.trans Kg_mem
 by_cases he:getE m q=getE n' q
 ·rw[if_pos he,if_neg (fun hc=>by
   obtain⟨h1,h2⟩:=hK.1 hc
   obtain⟨a,ha⟩:=key_getE h1
   rw[he]at ha
   exact h2 (getE_key ha)),Option.none_or,he]
 ·rw[if_neg he]
  cases hq:getE n' q with
  | some a=>simp
  | none=>
   rw[if_pos (hK.2 ⟨by
    cases hmq:getE m q with
    | none=>rw[hmq,hq]at he;exact absurd rfl he
    | some a=>exact getE_key hmq,getE_none.1 hq⟩)]
   rfl
theorem takes_len (hm:NodE m) (hp:n.Perm m) (h':NodE n') (hl:m.length≤40) (hl':n'.length≤40) (k:Nat):(takesM n ((updP m n').take k)).length≤40:=by
 have hn:NodE n:=NodE.perm hm hp.symm
 have hN:NodE (takesM n ((updP m n').take k)):=nod_takes hn
 rw[updP_eq]at *
 rcases Nat.lt_or_ge (goneU (goU (Kg m n'))).length k with hk|hk
 ·rw[List.take_append,List.take_of_length_le (by omega),takesM_app]at hN ⊢
  refine Nat.le_trans (keys_len (Y:=n') hN fun q hq=>?_) hl'
  rcases keys_takes hq with hq|⟨u,hu,hq⟩
  ·obtain⟨a,ha⟩:=key_getE hq
   rw[getE_goes]at ha
   split at ha
   ·cases ha
   ·rename_i hc
    have h1:q∈keysE m:=(hp.map _).mem_iff.1 (getE_key ha)
    have hK:q∈(goU (Kg m n')).flatten↔q∈keysE m∧q ∉ keysE n':=(goU_perm _).mem_iff.trans Kg_mem
    exact Classical.byContradiction fun h2=>hc (hK.2 ⟨h1,h2⟩)
  ·obtain⟨x,hx,rfl⟩:=List.mem_map.1 (List.mem_of_mem_take hu)
   have:(q,x.2)∈pairs (comU (Lc m n')):=List.mem_flatMap.2 ⟨x,hx,List.mem_map.2 ⟨q,hq,rfl⟩⟩
   obtain⟨_,h2,_⟩:=comKs_mem ((comU_perm _).mem_iff.1 this)
   exact getE_key h2
 ·rw[List.take_append_of_le_length hk]at hN ⊢
  refine Nat.le_trans (keys_len (Y:=n) hN fun q hq=>?_) (by rw[hp.length_eq];exact hl)
  rcases keys_takes hq with hq|⟨u,hu,hq⟩
  ·exact hq
  ·obtain⟨g,hg,rfl⟩:=List.mem_map.1 (List.mem_of_mem_take hu)
   simp at hq
theorem Lc_ck (h':ToldM n'):∀e∈Lc m n',checkU ⟨[],[e.1],e.2⟩=0:=fun e he=>by
 have h2:getE n' e.1=some e.2:=(comKs_mem he).2.1
 have h3:(e.1,e.2)∈n':=getE_mem h2
 exact h'.ck (e.1,e.2) h3
theorem Lc_right (h':ToldM n'):∀x∈comU (Lc m n'),rightA x.2=true:=by
 refine comU_right (P:=fun a=>rightA a=true) ?_
 intro e he
 exact check_right (Lc_ck h' e he)
theorem upd_check (hm:ToldM m) (h':ToldM n') (u:Upd) (hu:u∈updP m n'):checkU u=0∧smallA u.attrs∧fewA u.attrs=true:=by
 rw[updP_eq]at hu
 rcases List.mem_append.1 hu with hu|hu
 ·obtain⟨g,hg,rfl⟩:=List.mem_map.1 hu
  refine⟨goU_check (fun p hp=>?_) g hg,noA_small,noA_few.2⟩
  obtain⟨h1,_⟩:=Kg_mem.1 hp
  obtain⟨a,ha⟩:=key_getE h1
  have h3:(p,a)∈m:=getE_mem ha
  exact ck_gone (ck_pref (hm.ck (p,a) h3))
 ·obtain⟨x,hx,rfl⟩:=List.mem_map.1 hu
  have h3:=right_sf (Lc_right h' x hx)
  exact⟨comU_check (Lc_ck h') x hx,h3.1,h3.2⟩
theorem upd_small (hm:ToldM m) (h':ToldM n') {u:Upd} (hu:u∈updP m n'):Small u:=by
 obtain⟨h1,_,h3⟩:=upd_check hm h' u hu
 have:=check_lens h1
 exact⟨by omega,by omega,h3⟩
theorem takes_ok (hm:ToldM m) (h':ToldM n') (hp:n.Perm m) (own:UInt32) (pe:Peer) (pol:Policy) (k:Nat):okM own pe pol (takesM n ((updP m n').take k)):=by
 refine okM_of (nod_takes (NodE.perm hm.nod hp.symm)) (by have:=takes_len hm.nod hp h'.nod hm.len h'.len k;omega) ?_
 exact takes_small (P:=smallA) (fun e he=>right_small (hm.right e (hp.mem_iff.1 he))) fun u hu=>(upd_check hm h' u (List.mem_of_mem_take hu)).2.1
end
theorem ToldM.nowL {s:SelfL} {pe:Peer} {pol:Policy} {l:List Route} (hok:okT l=true) (hl:l.length≤40):ToldM (nowL s pe pol l) where
 nod:=by
  obtain⟨h1,h2⟩:=nowR_perm (o:=⟨s,pe,pol,[]⟩) hok
  exact NodE.perm h1.nod h2
 len:=Nat.le_trans (List.length_filterMap_le _ _) hl
 ck:=nowL_right
theorem ToldM.nil:ToldM []:=⟨by simp[NodE,keysE],by simp,by simp⟩
end
section
open Go.Proofs.Tryz (prog)
attribute [local irreducible] CallV RoundV aggK
def pe1:Peer:=⟨1,1,9,false⟩
theorem newOk_pe1:newOk 2 pe1 polE=true:=by decide
theorem encRtss_free (l:List (List Route)):Free (encRtss l):=.sl (by
 intro x hx v hv
 obtain⟨r,_,rfl⟩:=List.mem_map.1 hx
 simp at hv;subst hv;exact encRts_free r)
instance {l}:FreeI (encRtss l):=⟨⟨encRtss_free l⟩⟩
theorem idxRss {l:List (List Route)} {i:Nat} (h:i < l.length):(l.map fun r=>[encRts r])[(i:Int).toNat]? = some [encRts l[i]]:=by simp[h]
theorem Less.encPs {l:List Prefix}:Less (encPs true l) (encPs false l):=.sl (by simp) rfl fun j v v' h1 h2=>by rw[h1]at h2;cases h2;exact Less.refl _
abbrev varIn2 (n:MapE):Option Blk:=some (.var true 121 (cellsIn 2 pe1 polE n))
theorem heard26_ok (pol:Policy) (l:List (List Route)):PCon prog 8 [encPo false pol,encRtss l] (.bool true):=by
 have n0:=num26_ok 0
 have n2:=num26_ok 2
 have hin:=new_ok 2 pe1 polE newOk_pe1
 refine callV_of (fn:=Go.Proofs.Tryz.f8) (body:=_) tab_ok mixed rfl rfl (by decide) (by simp[Go.Proofs.Tryz.f8]) ?_
 conv=>whnf
 intro _
 conv=>whnf
 split
 ·conv=>whnf
  refine callV_pure works26_ok trivial ?_
  conv=>whnf
  exact(Ends.pA)
 conv=>whnf
 intro _
 conv=>whnf
 split
 ·conv=>whnf
  refine callV_pure works26_ok trivial ?_
  conv=>whnf
  exact(Ends.pA)
 conv=>whnf
 cases hn:newO sf1 pe2 pol with
 | false=>
  refine callV_pure (newO_bad sf1 pe2 pol hn) ⟨.fr rfl,.fr rfl,.fr rfl,trivial⟩ ?_
  conv=>whnf
  refine callV_frame (nx:=2) (n0:=0) id hin ⟨.fr rfl,.fr rfl,.aggL ⟨.snil_sl,.fr rfl,trivial⟩,trivial⟩ (LeH.nil (by omega) (fun _ h=>by omega) (by simp)) (fun b hb=>by omega) (fun b hb=>by omega) ?_
  rintro v h' nx' ⟨rfl,rfl,rfl⟩ _
  refine⟨.tup [.ptr 2 0,.int .i64 0],[(2,varIn2 []),(1,some (.var true 4 [.bool false]))],.tup ⟨.ptr rfl,.free .int,trivial⟩,(by repeat' (first|exact True.intro|exact Or.inr ⟨by decide,rfl⟩|exact Or.inl ⟨0,rfl,by omega,_,rfl,.var (cellsIn_free _ _ _ _)⟩|refine⟨?_,?_⟩)),?_⟩
  conv=>whnf
  refine callV_pure n2 ⟨.fr rfl,trivial⟩ ?_
  conv=>whnf
  refine callV_pure n0 ⟨.fr rfl,trivial⟩ ?_
  conv=>whnf
  refine callV_pure works26_ok trivial ?_
  conv=>whnf
  exact(Ends.pA)
 | true=>
 have hnew:=newO_ok sf1 pe2 pol hn
 refine callV_frame (nx:=2) (n0:=0) id hnew ⟨.fr rfl,.fr rfl,.fr rfl,trivial⟩ (LeH.nil (by omega) (fun _ h=>by omega) (by simp)) (fun b hb=>by omega) (fun b hb=>by omega) ?_
 rintro v h' nx' ⟨rfl,rfl,rfl⟩ _
 refine⟨.tup [.ptr 2 0,.int .i64 0],[(2,varOut sf1 pe2 pol []),(1,some (.var true 4 [.bool false]))],.tup ⟨.ptr rfl,.free .int,trivial⟩,(by repeat' (first|exact True.intro|exact Or.inr ⟨by decide,rfl⟩|exact Or.inl ⟨0,rfl,by omega,_,rfl,.var (cellsOut_free _ _ _ _)⟩|refine⟨?_,?_⟩)),?_⟩
 conv=>whnf
 refine callV_frame (nx:=3) (n0:=0) id hin ⟨.fr rfl,.fr rfl,.aggL ⟨.snil_sl,.fr rfl,trivial⟩,trivial⟩ (LeH.nil (by omega) (fun _ h=>by omega) (by simp)) (fun b hb=>by omega) (fun b hb=>by omega) ?_
 rintro v h' nx' ⟨rfl,rfl,rfl⟩ _
 refine⟨.tup [.ptr 3 0,.int .i64 0],[(3,varIn2 []),(2,varOut sf1 pe2 pol []),(1,some (.var true 4 [.bool false]))],.tup ⟨.ptr rfl,.free .int,trivial⟩,(by repeat' (first|exact True.intro|exact Or.inr ⟨by decide,rfl⟩|exact Or.inl ⟨0,rfl,by omega,_,rfl,.var (cellsIn_free _ _ _ _)⟩|refine⟨?_,?_⟩)),?_⟩
 conv=>whnf
 refine callV_pure n0 ⟨.fr rfl,trivial⟩ ?_
 conv=>whnf
 refine vcg_loop tab_ok mixed (fun q:{q:Nat × MapE × MapE // q.1≤l.length∧ToldM q.2.1∧q.2.2.Perm q.2.1}=>⟨[(1,encRtss l),(4,.ptr 1 0),(5,.ptr 2 0),(7,.ptr 4 0),(9,cI q.1.1)],[(1,some (.var true 4 [.bool false])),(2,varOut sf1 pe2 pol q.1.2.1),(3,varIn2 q.1.2.2),(4,some (.var true 78 [.ptr 3 0]))],5⟩) (fun q=>l.length - q.1.1) ⟨(0,[],[]),by simp,ToldM.nil,.refl _⟩ (Wk.i (by repeat' (first|exact LHa|exact LeL.freeV (cellsOut_free sf1 pe2 _ _)|exact LeL.freeV (cellsIn_free _ _ _ _)|exact .int_of (by simp)|exact .A|exact LeL.fr rfl|exact LHb|refine Or.inl ⟨by simp,_,rfl,?_⟩|exact Or.inr ⟨by simp,_,_,_,_,rfl⟩|refine⟨rfl,rfl,rfl,rfl,rfl,rfl,?_⟩|refine⟨?_,?_⟩)) (by omega)) (fun q=>?_)
 obtain⟨⟨i,m,n⟩,hi,hm,hp⟩:=q
 have hi:i≤l.length:=hi
 have hm:ToldM m:=hm
 have hp:n.Perm m:=hp
 conv=>whnf
 intro hgl
 have hgl:l.length≤maxLen:=by simpa[gd]using hgl
 conv=>whnf
 split
 rotate_left
 ·conv=>whnf
  refine callV_pure works26_ok trivial ?_
  conv=>whnf
  exact(Ends.pA)
 rename_i hc
 have hc:i < l.length:=by simpa using hc
 have hfew:=few26_ok l[i] 40
 conv=>whnf
 refine ixK (idxRss hc) ?_
 conv=>whnf
 refine callV_pure hfew ⟨.fr rfl,.fr rfl,trivial⟩ ?_
 cases hf:few26S l[i] 40 with
 | false=>
  conv=>whnf
  refine callV_pure works26_ok trivial ?_
  conv=>whnf
  exact(Ends.pA)
 | true=>
 obtain⟨hsm,hl40⟩:=few26S_out hf
 have hl40:l[i].length≤40:=by omega
 conv=>whnf
 refine ixK (idxRss hc) ?_
 conv=>whnf
 cases hok:okT l[i]with
 | false=>
  refine callV_out (tell_bad sf1 pe2 pol m l[i] hsm hok) rfl (cellsOut_free _ _ _ _) (cellsOut_free _ _ _ _) ⟨.ptr rfl (by omega),.fr rfl,trivial⟩ ?_
  rintro v rfl
  refine⟨.tup (by simp;exact⟨.snil,.int⟩),?_⟩
  show _
  conv=>whnf
  refine callV_pure n2 ⟨.fr rfl,trivial⟩ ?_
  conv=>whnf
  exact⟨⟨(i + 1,m,n),by simp only;omega,hm,hp⟩,(Wk.i (by repeat' (first|exact LHa|exact LeL.freeV (cellsOut_free sf1 pe2 _ _)|exact LeL.freeV (cellsIn_free _ _ _ _)|exact .int_of (wrap64_succ hc hgl)|exact .A|exact LeL.fr rfl|exact LHb|refine Or.inl ⟨by simp,_,rfl,?_⟩|exact Or.inr ⟨by simp,_,_,_,_,rfl⟩|refine⟨rfl,rfl,rfl,rfl,rfl,rfl,?_⟩|refine⟨?_,?_⟩)) (by omega)),by simp only;omega⟩
 | true=>
 have hm':ToldM (nowL sf1 pe2 pol l[i]):=ToldM.nowL hok hl40
 have hT:=(tell_B sf1 pe2 pol m (by have:=hm.len;omega) l[i] (by omega) hsm hok).callV
 have hT2:=(tell_B sf1 pe2 pol (nowL sf1 pe2 pol l[i]) (by have:=hm'.len;omega) l[i] (by omega) hsm hok).callV
 rw[updP_self]at hT2
 generalize nowL sf1 pe2 pol l[i]=n' at *
 refine callV_out hT rfl (cellsOut_free _ _ _ _) (cellsOut_free _ _ _ _) ⟨.ptr rfl (by omega),.fr rfl,trivial⟩ ?_
 rintro v rfl
 refine⟨encUt2_free _ _ _,?_⟩
 show _
 have htk:∀k (h:k < (updP m n').length),InC 28 [.ptr 0 0,encU false (updP m n')[k]] (cellsIn 2 pe1 polE (takesM n ((updP m n').take k))) (cellsIn 2 pe1 polE (takesM n ((updP m n').take (k + 1)))) (·=.tup [encChs true (chgs 2 pe1 polE polE (takesM n ((updP m n').take k)) (takesM n ((updP m n').take (k + 1)))),.int .i64 0]):=fun k h=>by
  have hu:=upd_check hm hm' _ (List.getElem_mem h)
  have h1:=takes_len hm.nod hp hm'.nod hm.len hm'.len (k + 1)
  have h2:=takes_ok hm hm' hp 2 pe1 polE (k + 1)
  have:=take_ok (takes_ok hm hm' hp 2 pe1 polE k) (updP m n')[k] (upd_small hm hm' (List.getElem_mem h)) hu.1 hu.2.1 (by rw[← takesM_succ h];omega) (by rw[← takesM_succ h];exact h2)
  rw[← takesM_succ h]at this
  exact this
 have hck:∀u∈updP m n',PCon prog 29 [encU true u] (.int .i64 0):=fun u hu=>by
  have:=ucheck_ok true u (upd_small hm hm' hu)
  rw[(upd_check hm hm' u hu).1]at this
  exact this
 have hall:=takes_all hm.nod hp hm'.nod
 have hokX:=takes_ok hm hm' hp 2 pe1 polE (updP m n').length
 rw[List.take_length]at hokX
 generalize updP m n'=U at *
 conv=>whnf
 refine callV_pure n0 ⟨.fr rfl,trivial⟩ ?_
 conv=>whnf
 refine vcg_loop tab_ok mixed (fun k:{k:Nat // k≤U.length}=>⟨[(1,encRtss l),(4,.ptr 1 0),(5,.ptr 2 0),(7,.ptr 4 0),(9,cI i),(10,encUt true U),(12,cI k.1)],[(1,some (.var true 4 [.bool false])),(2,varOut sf1 pe2 pol n'),(3,varIn2 (takesM n (U.take k.1))),(4,some (.var true 78 [.ptr 3 0]))],5⟩) (fun k=>U.length - k.1) ⟨0,by omega⟩ (Wk.i (by repeat' (first|exact LHa|exact LeL.freeV (cellsOut_free sf1 pe2 _ _)|exact LeL.freeV (cellsIn_free _ _ _ _)|exact .int_of (by simp)|exact .A|exact LeL.fr rfl|exact LHb|refine Or.inl ⟨by simp,_,rfl,?_⟩|exact Or.inr ⟨by simp,_,_,_,_,rfl⟩|refine⟨rfl,rfl,rfl,rfl,rfl,rfl,?_⟩|refine⟨?_,?_⟩)) (by omega)) (fun k=>?_)
 obtain⟨k,hk⟩:=k
 conv=>whnf
 intro hgk
 have hgk:U.length≤maxLen:=by simpa[gd]using hgk
 conv=>whnf
 split
 ·rename_i hck'
  have hkl:k < U.length:=by simpa using hck'
  conv=>whnf
  refine ixK (idxUt hkl) ?_
  conv=>whnf
  refine⟨.tup [encChs true (chgs 2 pe1 polE polE (takesM n (U.take k)) (takesM n (U.take (k + 1)))),.int .i64 0],[(3,varIn2 (takesM n (U.take k)))],[(3,varIn2 (takesM n (U.take (k + 1))))],fun h nx hrd=>?_,by intro b ob hb;simp at hb;obtain⟨rfl,rfl⟩:=hb;rfl,?_⟩
  ·have h2:hget h 3=some (.var true 121 (cellsIn 2 pe1 polE (takesM n (U.take k)))):=hrd _ _ (by simp)
   exact updV_var (Z:=[]) (htk k hkl) (tupCh_free _ _) h2 (by simp) (by simp) (cellsIn_free _ _ _ _) (cellsIn_free _ _ _ _) ⟨.ptr rfl (by omega),.aggL ⟨.less (.free (encPs_free _ _)) Less.encPs,.less (.free (encPs_free _ _)) Less.encPs,.fr rfl,.less (.free (encLegs_free _ _)) Less.legs,.fr rfl,.fr rfl,.fr rfl,.fr rfl,.fr rfl,.less (.free (encW_free _ _)) Less.encW,trivial⟩,trivial⟩
  conv=>whnf
  refine⟨by kernel_rfl,?_⟩
  conv=>whnf
  refine ixK (idxUt hkl) ?_
  conv=>whnf
  refine callV_pure (hck _ (List.getElem_mem hkl)) ⟨.fr rfl,trivial⟩ ?_
  conv=>whnf
  refine callV_pure n0 ⟨.fr rfl,trivial⟩ ?_
  conv=>whnf
  refine callV_pure n0 ⟨.fr rfl,trivial⟩ ?_
  conv=>whnf
  exact⟨⟨k + 1,by omega⟩,(Wk.i (by repeat' (first|exact LHa|exact LeL.freeV (cellsOut_free sf1 pe2 _ _)|exact LeL.freeV (cellsIn_free _ _ _ _)|exact .int_of (wrap64_succ hkl hgk)|exact .A|exact LeL.fr rfl|exact LHb|refine Or.inl ⟨by simp,_,rfl,?_⟩|exact Or.inr ⟨by simp,_,_,_,_,rfl⟩|refine⟨rfl,rfl,rfl,rfl,rfl,rfl,?_⟩|refine⟨?_,?_⟩)) (by omega)),by simp only;omega⟩
 rename_i hck'
 have hkl:k=U.length:=by simp at hck';omega
 subst hkl
 rw[List.take_length]
 generalize takesM n U=X at *
 have hX:X.length=n'.length:=hall.length_eq
 have hXn:NodE X:=NodE.perm hm'.nod hall.symm
 have hln:=len24_ok 2 pe1 polE X
 rw[hX]at hln
 conv=>whnf
 refine ixK (idxRss hc) ?_
 conv=>whnf
 refine callV_out hT2 rfl (cellsOut_free _ _ _ _) (cellsOut_free _ _ _ _) ⟨.ptr rfl (by omega),.fr rfl,trivial⟩ ?_
 rintro v rfl
 refine⟨encUt2_free _ _ _,?_⟩
 show _
 conv=>whnf
 refine⟨_,[],fun h nx _=>pureV_pure n0 ⟨.fr rfl,trivial⟩,by simp,?_⟩
 conv=>whnf
 refine⟨_,[(2,varOut sf1 pe2 pol n')],fun h nx hrd=>pureV_var (lenO_ok sf1 pe2 pol n') .int (hrd 2 _ (by simp)) (cellsOut_free _ _ _ _) ⟨.ptr rfl (by omega),trivial⟩,by intro b ob hb;simp at hb;obtain⟨rfl,rfl⟩:=hb;rfl,?_⟩
 conv=>whnf
 refine⟨_,[(3,varIn2 X)],fun h nx hrd=>pureV_var hln .int (hrd 3 _ (by simp)) (cellsIn_free _ _ _ _) ⟨.ptr rfl (by omega),trivial⟩,by intro b ob hb;simp at hb;obtain⟨rfl,rfl⟩:=hb;rfl,?_⟩
 conv=>whnf
 refine⟨by kernel_rfl,?_⟩
 conv=>whnf
 rw[bne_self_eq_false]
 conv=>whnf
 refine callV_out (toldO_ok sf1 pe2 pol n') rfl (cellsOut_free _ _ _ _) (cellsOut_free _ _ _ _) ⟨.ptr rfl (by omega),trivial⟩ ?_
 rintro v rfl
 refine⟨.fn (by simp) (by intro v hv;simp at hv;subst hv;exact .iptr (by intro v hv;simp at hv;subst hv;exact imapA_free n')),?_⟩
 show _
 conv=>whnf
 refine callV_out (toldO_ok sf1 pe2 pol n') rfl (cellsOut_free _ _ _ _) (cellsOut_free _ _ _ _) ⟨.ptr rfl (by omega),trivial⟩ ?_
 rintro v rfl
 refine⟨.fn (by simp) (by intro v hv;simp at hv;subst hv;exact .iptr (by intro v hv;simp at hv;subst hv;exact imapA_free n')),?_⟩
 show _
 conv=>whnf
 have hso:=sortedO_ok n' (by have:=hm'.len;omega)
 have hKn:∀q∈sortPs (keysE n'),∃a,getE n' q=some a:=fun q hq=>key_getE (mem_sortPs.1 hq)
 generalize sortPs (keysE n')=Q at *
 refine callV_loop [(4,.ptr 1 0),(7,.ptr 4 0)] ⟨rfl,rfl,trivial⟩ fun asg' body' hasg hbody=>?_
 refine callV_of (fn:=Go.Proofs.Tryz.f49) (body:=_) tab_ok mixed rfl rfl (by decide) (by simp[Go.Proofs.Tryz.f49]) ?_
 conv=>whnf
 refine callV_pure hso ⟨.fr rfl,trivial⟩ ?_
 conv=>whnf
 intro hgq
 have hgq:Q.length≤maxLen:=by simpa[gd]using hgq
 conv=>whnf
 refine vcg_loop tab_ok mixed (fun j:{j:Nat // j≤Q.length}=>⟨[(0,.yld 5),(1,.iptr true [.imap false (esA n')]),(6,encPs true Q),(7,cI Q.length),(8,cI j.1)],[(5,some (.loop 151 [(4,.ptr 1 0),(7,.ptr 4 0)] [134,135] asg' body' .ready none)),(1,some (.var true 4 [.bool false])),(2,varOut sf1 pe2 pol n'),(3,varIn2 X),(4,some (.var true 78 [.ptr 3 0]))],6⟩) (fun j=>Q.length - j.1) ⟨0,by omega⟩ (Wk.i (by repeat' (first|exact LHa|exact LeL.freeV (cellsOut_free sf1 pe2 _ _)|exact LeL.freeV (cellsIn_free _ _ _ _)|exact .int_of (by simp)|exact .free (.iptr (by intro v hv;simp at hv;subst hv;exact imapA_free n'))|exact .A|exact LeL.fr rfl|exact LHb|refine Or.inl ⟨by simp,_,rfl,?_⟩|exact Or.inr ⟨by simp,_,_,_,_,rfl⟩|refine⟨rfl,rfl,rfl,rfl,rfl,rfl,?_⟩|refine⟨?_,?_⟩)) (by omega)) (fun j=>?_)
 obtain⟨j,hj⟩:=j
 conv=>whnf
 split
 ·rename_i hcj
  have hcj:j < Q.length:=by simpa using hcj
  obtain⟨a,ha⟩:=hKn Q[j] (List.getElem_mem hcj)
  have hra:smallA a:=right_small (hm'.right _ (getE_mem ha))
  have sm:=ref_same_ok true true a a
  rw[sameA_refl]at sm
  have hcp:=copy_pure false a hra.1 hra.2.1 hra.2.2
  have hsd:=said24_ok hokX Q[j]
  rw[getE_perm hXn hall,ha]at hsd
  conv=>whnf
  refine ixK (idxP hcj) ?_
  conv=>whnf
  refine⟨esA_keys _,keyP _,some (encA false a),look_some ha,?_⟩
  conv=>whnf
  refine⟨_,[],fun h nx _=>pureV_pure hcp ⟨.fr rfl,trivial⟩,by simp,?_⟩
  conv=>whnf
  refine⟨by kernel_rfl,?_⟩
  conv=>whnf
  refine roundV_eq tab_ok mixed hasg hbody rfl (by simp) (show 5 < 7 by omega) ?_
  conv=>whnf
  refine⟨rfl,?_⟩
  conv=>whnf
  refine callV_in (b:=3) hsd rfl (cellsIn_free _ _ _ _) (cellsIn_free _ _ _ _) ⟨.ptr rfl (by omega),.fr rfl,trivial⟩ ?_
  rintro v rfl
  refine⟨.tup (by simp;exact⟨encA_free _ _,.bool⟩),?_⟩
  show _
  conv=>whnf
  refine callV_pure sm ⟨.fr rfl,.fr rfl,trivial⟩ ?_
  conv=>whnf
  refine⟨rfl,?_⟩
  conv=>whnf
  exact⟨⟨j + 1,by omega⟩,(Wk.i (by repeat' (first|exact LHa|exact LeL.freeV (cellsOut_free sf1 pe2 _ _)|exact LeL.freeV (cellsIn_free _ _ _ _)|exact .int_of (wrap64_succ hcj hgq)|exact .free (.iptr (by intro v hv;simp at hv;subst hv;exact imapA_free n'))|exact .A|exact LeL.fr rfl|exact LHb|refine Or.inl ⟨by simp,_,rfl,?_⟩|exact Or.inr ⟨by simp,_,_,_,_,rfl⟩|refine⟨rfl,rfl,rfl,rfl,rfl,rfl,?_⟩|refine⟨?_,?_⟩)) (by omega)),by simp only;omega⟩
 rename_i hcj
 conv=>whnf
 refine⟨_,_,_,Ends.here,?_⟩
 conv=>whnf
 exact⟨⟨(i + 1,n',X),by simp only;omega,hm',hall⟩,(Wk.i (by repeat' (first|exact LHa|exact LeL.freeV (cellsOut_free sf1 pe2 _ _)|exact LeL.freeV (cellsIn_free _ _ _ _)|exact .int_of (wrap64_succ hc hgl)|exact .A|exact LeL.fr rfl|exact LHb|refine Or.inl ⟨by simp,_,rfl,?_⟩|exact Or.inr ⟨by simp,_,_,_,_,rfl⟩|refine⟨rfl,rfl,rfl,rfl,rfl,rfl,?_⟩|refine⟨?_,?_⟩)) (by omega)),by simp only;omega⟩
end
end Go.Proofs.YteogfjpaljbkoaaGreat
