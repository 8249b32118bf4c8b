import Derived.Test.YtkflbkcfabnomaaGreatP9c
import Derived.Test.YtkflbkcfabnomaaGreatProg
import Derived.KernelRfl
import Derived.Shelf.Sort.Plain
import Derived.Shelf.Slices.CompactI
namespace Go.Proofs.YtkflbkcfabnomaaGreat.R
set_option linter.unusedVariables false
set_option linter.unusedSimpArgs false
section
noncomputable section
def ti8:TI:=⟨1,8,false,(.int .i64),[(.int .i64 0)],false,(some (.int .i64))⟩
def ttL:List TI:=[
 ⟨0,0,false,.other,[.undef],false,none⟩,
 ⟨1,8,false,.other,[.undef],false,none⟩,
 ti8,
 ti8,
 ⟨1,1,false,.bool,[(.bool false)],false,(some .bool)⟩,
 ⟨1,1,false,(.int .u8),[(.int .u8 0)],false,(some (.int .u8))⟩,
 ⟨1,1,false,(.int .u8),[(.int .u8 0)],false,(some (.int .u8))⟩,
 ⟨4,24,true,(.struct [(0,2),(1,3),(2,4),(3,6)]),[(.int .i64 0),(.int .i64 0),(.bool false),(.int .u8 0)],true,(some (.pair (.int .i64) (.pair (.int .i64) (.pair .bool (.int .u8)))))⟩,
 ⟨4,24,true,(.struct [(0,2),(1,3),(2,4),(3,6)]),[(.int .i64 0),(.int .i64 0),(.bool false),(.int .u8 0)],true,(some (.pair (.int .i64) (.pair (.int .i64) (.pair .bool (.int .u8)))))⟩,
 ⟨1,16,false,.str,[(.str ⟨#[]⟩)],false,(some .str)⟩,
 ⟨1,16,false,.str,[(.str ⟨#[]⟩)],false,(some .str)⟩,
 ⟨1,16,false,.str,[(.str ⟨#[]⟩)],false,(some .str)⟩,
 ⟨1,8,false,(.int .u64),[(.int .u64 0)],false,(some (.int .u64))⟩,
 ⟨2,24,true,(.struct [(0,9),(1,12)]),[(.str ⟨#[]⟩),(.int .u64 0)],false,(some (.pair .str (.int .u64)))⟩,
 ⟨2,24,true,(.struct [(0,9),(1,12)]),[(.str ⟨#[]⟩),(.int .u64 0)],false,(some (.pair .str (.int .u64)))⟩,
 ⟨1,8,false,(.ptr 304),[.nilp],false,none⟩,
 ⟨1,8,false,(.ptr 307),[.nilp],false,none⟩,
 ⟨1,8,false,(.ptr 315),[.nilp],false,none⟩,
 ⟨1,8,true,(.struct [(0,17)]),[.nilp],false,none⟩,
 ⟨1,8,true,(.struct [(0,17)]),[.nilp],false,none⟩,
 ⟨1,16,false,.other,[.undef],false,none⟩,
 ⟨1,4,false,(.int .i32),[(.int .i32 0)],false,(some (.int .i32))⟩,
 ⟨1,24,false,(.slice 110),[.nil],false,(some (.list qL))⟩,
 ⟨2,32,true,(.struct [(0,3),(1,22)]),[(.int .i64 0),.nil],false,(some (.pair (.int .i64) (.list qL)))⟩,
 ⟨2,32,true,(.struct [(0,3),(1,22)]),[(.int .i64 0),.nil],false,(some (.pair (.int .i64) (.list qL)))⟩,
 ⟨1,24,false,(.slice 87),[.nil],false,(some (.list qR))⟩,
 ⟨6,80,true,(.struct [(0,24),(2,3),(3,3),(4,3),(5,25)]),[(.int .i64 0),.nil,(.int .i64 0),(.int .i64 0),(.int .i64 0),.nil],false,(some (.pair (.pair (.int .i64) (.list qL)) (.pair (.int .i64) (.pair (.int .i64) (.pair (.int .i64) (.list qR))))))⟩,
 ⟨6,80,true,(.struct [(0,24),(2,3),(3,3),(4,3),(5,25)]),[(.int .i64 0),.nil,(.int .i64 0),(.int .i64 0),(.int .i64 0),.nil],false,(some (.pair (.pair (.int .i64) (.list qL)) (.pair (.int .i64) (.pair (.int .i64) (.pair (.int .i64) (.list qR))))))⟩,
 ⟨1,24,false,(.slice 3),[.nil],false,(some (.list (.int .i64)))⟩,
 ⟨2,16,true,(.struct [(0,3),(1,3)]),[(.int .i64 0),(.int .i64 0)],true,(some qS)⟩,
 ⟨2,16,true,(.struct [(0,3),(1,3)]),[(.int .i64 0),(.int .i64 0)],true,(some qS)⟩,
 ⟨7,56,true,(.struct [(0,30),(2,3),(3,3),(4,3),(5,3),(6,3)]),[(.int .i64 0),(.int .i64 0),(.int .i64 0),(.int .i64 0),(.int .i64 0),(.int .i64 0),(.int .i64 0)],true,(some (.pair qS (.pair (.int .i64) (.pair (.int .i64) qL))))⟩,
 ⟨7,56,true,(.struct [(0,30),(2,3),(3,3),(4,3),(5,3),(6,3)]),[(.int .i64 0),(.int .i64 0),(.int .i64 0),(.int .i64 0),(.int .i64 0),(.int .i64 0),(.int .i64 0)],true,(some (.pair qS (.pair (.int .i64) (.pair (.int .i64) qL))))⟩,
 ⟨1,8,false,.other,[.undef],false,none⟩,
 ⟨1,8,false,.other,[.undef],false,none⟩,
 ⟨2,32,true,(.struct [(0,3),(1,28)]),[(.int .i64 0),.nil],false,(some qP)⟩,
 ⟨2,32,true,(.struct [(0,3),(1,28)]),[(.int .i64 0),.nil],false,(some qP)⟩,
 ⟨1,24,false,(.slice 66),[.nil],false,(some (.list qG))⟩,
 ⟨1,24,false,(.slice 108),[.nil],false,(some (.list qC))⟩,
 ⟨9,136,true,(.struct [(0,36),(2,3),(3,3),(4,3),(5,3),(6,37),(7,28),(8,38)]),[(.int .i64 0),.nil,(.int .i64 0),(.int .i64 0),(.int .i64 0),(.int .i64 0),.nil,.nil,.nil],false,(some (.pair qP (.pair (.int .i64) (.pair (.int .i64) (.pair (.int .i64) (.pair (.int .i64) (.pair (.list qG) (.pair (.list (.int .i64)) (.list qC)))))))))⟩,
 ⟨9,136,true,(.struct [(0,36),(2,3),(3,3),(4,3),(5,3),(6,37),(7,28),(8,38)]),[(.int .i64 0),.nil,(.int .i64 0),(.int .i64 0),(.int .i64 0),(.int .i64 0),.nil,.nil,.nil],false,(some (.pair qP (.pair (.int .i64) (.pair (.int .i64) (.pair (.int .i64) (.pair (.int .i64) (.pair (.list qG) (.pair (.list (.int .i64)) (.list qC)))))))))⟩,
 ti8,
 ⟨0,0,false,.other,[.undef],false,none⟩,
 ⟨1,8,false,.other,[.undef],false,none⟩,
 ⟨0,0,false,.other,[.undef],false,none⟩,
 ⟨1,8,false,.other,[.undef],false,none⟩,
 ⟨1,8,false,.other,[.undef],false,none⟩,
 ⟨1,8,false,.other,[.undef],false,none⟩,
 ⟨1,8,false,.other,[.undef],false,none⟩,
 ⟨1,8,false,.other,[.undef],false,none⟩,
 ⟨1,8,false,.other,[.undef],false,none⟩,
 ⟨1,8,false,.other,[.undef],false,none⟩,
 ⟨1,8,false,.other,[.undef],false,none⟩,
 ⟨1,8,false,.other,[.undef],false,none⟩,
 ⟨1,8,false,.other,[.undef],false,none⟩,
 ⟨1,8,false,.other,[.undef],false,none⟩,
 ⟨1,8,false,.other,[.undef],false,none⟩,
 ⟨1,8,false,.other,[.undef],false,none⟩,
 ⟨1,8,false,.other,[.undef],false,none⟩,
 ⟨0,0,false,.other,[.undef],false,none⟩,
 ⟨1,8,false,.other,[.undef],false,none⟩,
 ⟨1,8,false,.other,[.undef],false,none⟩,
 ⟨1,8,false,.other,[.undef],false,none⟩,
 ⟨1,8,false,.other,[.undef],false,none⟩,
 ⟨1,8,false,.other,[.undef],false,none⟩,
 ⟨3,40,true,(.struct [(0,30),(2,28)]),[(.int .i64 0),(.int .i64 0),.nil],false,(some qG)⟩,
 ⟨3,40,true,(.struct [(0,30),(2,28)]),[(.int .i64 0),(.int .i64 0),.nil],false,(some qG)⟩,
 ⟨1,8,false,.other,[.undef],false,none⟩,
 ⟨0,0,false,.other,[.undef],false,none⟩,
 ⟨1,8,false,.other,[.undef],false,none⟩,
 ⟨1,8,false,.other,[.undef],false,none⟩,
 ⟨0,0,false,.other,[.undef],false,none⟩,
 ⟨1,8,false,.other,[.undef],false,none⟩,
 ⟨0,0,false,.other,[.undef],false,none⟩,
 ⟨1,8,false,.other,[.undef],false,none⟩,
 ⟨1,8,false,.other,[.undef],false,none⟩,
 ⟨10,112,true,(.struct [(0,30),(2,36),(4,3),(5,3),(6,3),(7,3),(8,3),(9,38)]),[(.int .i64 0),(.int .i64 0),(.int .i64 0),.nil,(.int .i64 0),(.int .i64 0),(.int .i64 0),(.int .i64 0),(.int .i64 0),.nil],false,(some (.pair qS (.pair qP (.pair (.int .i64) (.pair (.int .i64) (.pair (.int .i64) (.pair (.int .i64) (.pair (.int .i64) (.list qC)))))))))⟩,
 ⟨10,112,true,(.struct [(0,30),(2,36),(4,3),(5,3),(6,3),(7,3),(8,3),(9,38)]),[(.int .i64 0),(.int .i64 0),(.int .i64 0),.nil,(.int .i64 0),(.int .i64 0),(.int .i64 0),(.int .i64 0),(.int .i64 0),.nil],false,(some (.pair qS (.pair qP (.pair (.int .i64) (.pair (.int .i64) (.pair (.int .i64) (.pair (.int .i64) (.pair (.int .i64) (.list qC)))))))))⟩,
 ⟨0,0,false,.other,[.undef],false,none⟩,
 ⟨1,8,false,.other,[.undef],false,none⟩,
 ⟨0,0,false,.other,[.undef],false,none⟩,
 ⟨1,8,false,.other,[.undef],false,none⟩,
 ⟨1,8,false,.other,[.undef],false,none⟩,
 ⟨1,8,false,.other,[.undef],false,none⟩,
 ⟨1,8,false,.other,[.undef],false,none⟩,
 ⟨1,8,false,.other,[.undef],false,none⟩,
 ⟨8,80,true,(.struct [(0,30),(2,3),(3,3),(4,3),(5,3),(6,3),(7,38)]),[(.int .i64 0),(.int .i64 0),(.int .i64 0),(.int .i64 0),(.int .i64 0),(.int .i64 0),(.int .i64 0),.nil],false,(some qR)⟩,
 ⟨8,80,true,(.struct [(0,30),(2,3),(3,3),(4,3),(5,3),(6,3),(7,38)]),[(.int .i64 0),(.int .i64 0),(.int .i64 0),(.int .i64 0),(.int .i64 0),(.int .i64 0),(.int .i64 0),.nil],false,(some qR)⟩,
 ⟨1,8,false,.other,[.undef],false,none⟩,
 ⟨1,8,false,.other,[.undef],false,none⟩,
 ⟨1,8,false,.other,[.undef],false,none⟩,
 ⟨0,0,false,.other,[.undef],false,none⟩,
 ⟨1,8,false,.other,[.undef],false,none⟩,
 ⟨1,8,false,.other,[.undef],false,none⟩,
 ⟨1,8,false,.other,[.undef],false,none⟩,
 ⟨0,0,false,.other,[.undef],false,none⟩,
 ⟨1,8,false,.other,[.undef],false,none⟩,
 ⟨0,0,false,.other,[.undef],false,none⟩,
 ⟨1,8,false,.other,[.undef],false,none⟩,
 ⟨1,8,false,.other,[.undef],false,none⟩,
 ⟨1,8,false,.other,[.undef],false,none⟩,
 ⟨1,8,false,.other,[.undef],false,none⟩,
 ⟨1,8,false,.other,[.undef],false,none⟩,
 ⟨1,8,false,.other,[.undef],false,none⟩,
 ⟨1,24,false,(.slice 123),[.nil],false,(some (.list qP))⟩,
 ⟨0,0,false,.other,[.undef],false,none⟩,
 ⟨1,8,false,.other,[.undef],false,none⟩,
 ⟨3,40,true,(.struct [(0,30),(2,104)]),[(.int .i64 0),(.int .i64 0),.nil],false,(some qC)⟩,
 ⟨3,40,true,(.struct [(0,30),(2,104)]),[(.int .i64 0),(.int .i64 0),.nil],false,(some qC)⟩,
 ⟨3,24,true,(.struct [(0,3),(1,3),(2,3)]),[(.int .i64 0),(.int .i64 0),(.int .i64 0)],true,(some qL)⟩,
 ⟨3,24,true,(.struct [(0,3),(1,3),(2,3)]),[(.int .i64 0),(.int .i64 0),(.int .i64 0)],true,(some qL)⟩,
 ⟨1,8,false,.other,[.undef],false,none⟩,
 ⟨1,8,false,.other,[.undef],false,none⟩,
 ⟨1,8,false,.other,[.undef],false,none⟩,
 ⟨1,8,false,.other,[.undef],false,none⟩,
 ⟨1,8,false,.other,[.undef],false,none⟩,
 ⟨0,0,false,.other,[.undef],false,none⟩,
 ⟨1,8,false,.other,[.undef],false,none⟩,
 ⟨1,8,false,.other,[.undef],false,none⟩,
 ⟨1,8,false,.other,[.undef],false,none⟩,
 ⟨0,0,false,.other,[.undef],false,none⟩,
 ⟨1,8,false,.other,[.undef],false,none⟩,
 ⟨2,32,true,(.struct [(0,3),(1,28)]),[(.int .i64 0),.nil],false,(some qP)⟩,
 ⟨2,32,true,(.struct [(0,3),(1,28)]),[(.int .i64 0),.nil],false,(some qP)⟩,
 ⟨1,24,false,(.slice 30),[.nil],false,(some (.list qS))⟩,
 ⟨1,8,false,.other,[.undef],false,none⟩,
 ⟨1,8,false,.other,[.undef],false,none⟩,
 ⟨1,8,false,.other,[.undef],false,none⟩,
 ⟨1,8,false,.other,[.undef],false,none⟩,
 ⟨1,8,false,.other,[.undef],false,none⟩,
 ⟨1,24,false,(.slice 186),[.nil],false,(some (.list (.pair .bool (.int .i64))))⟩,
 ⟨1,8,false,.other,[.undef],false,none⟩,
 ⟨1,8,false,.other,[.undef],false,none⟩,
 ⟨1,8,false,.other,[.undef],false,none⟩,
 ⟨1,8,false,.other,[.undef],false,none⟩,
 ⟨1,8,false,.other,[.undef],false,none⟩,
 ⟨1,8,false,.other,[.undef],false,none⟩,
 ⟨1,8,false,.other,[.undef],false,none⟩,
 ⟨1,8,false,.other,[.undef],false,none⟩,
 ⟨1,8,false,.other,[.undef],false,none⟩,
 ⟨1,8,false,.other,[.undef],false,none⟩,
 ⟨1,8,false,.other,[.undef],false,none⟩,
 ⟨0,0,false,.other,[.undef],false,none⟩,
 ⟨8,80,true,(.struct [(0,32),(7,37)]),[(.int .i64 0),(.int .i64 0),(.int .i64 0),(.int .i64 0),(.int .i64 0),(.int .i64 0),(.int .i64 0),.nil],false,(some (.pair (.pair qS (.pair (.int .i64) (.pair (.int .i64) qL))) (.list qG)))⟩,
 ⟨8,80,true,(.struct [(0,32),(7,37)]),[(.int .i64 0),(.int .i64 0),(.int .i64 0),(.int .i64 0),(.int .i64 0),(.int .i64 0),(.int .i64 0),.nil],false,(some (.pair (.pair qS (.pair (.int .i64) (.pair (.int .i64) qL))) (.list qG)))⟩,
 ⟨1,8,false,.other,[.undef],false,none⟩,
 ⟨1,8,false,.other,[.undef],false,none⟩,
 ⟨1,8,false,.other,[.undef],false,none⟩,
 ⟨1,8,false,.other,[.undef],false,none⟩,
 ⟨1,8,false,.other,[.undef],false,none⟩,
 ⟨0,0,false,.other,[.undef],false,none⟩,
 ⟨1,8,false,.other,[.undef],false,none⟩,
 ⟨1,8,false,.other,[.undef],false,none⟩,
 ⟨1,8,false,.other,[.undef],false,none⟩,
 ⟨1,8,false,.other,[.undef],false,none⟩,
 ⟨1,8,false,.other,[.undef],false,none⟩,
 ⟨1,8,false,.other,[.undef],false,none⟩,
 ⟨1,8,false,.other,[.undef],false,none⟩,
 ⟨1,8,false,.other,[.undef],false,none⟩,
 ⟨0,0,false,.other,[.undef],false,none⟩,
 ⟨1,8,false,.other,[.undef],false,none⟩,
 ⟨1,8,false,.other,[.undef],false,none⟩,
 ⟨0,0,false,.other,[.undef],false,none⟩,
 ⟨1,8,false,.other,[.undef],false,none⟩,
 ⟨1,8,false,(.int .u64),[(.int .u64 0)],false,(some (.int .u64))⟩,
 ⟨1,8,false,.other,[.undef],false,none⟩,
 ⟨1,8,false,.other,[.undef],false,none⟩,
 ⟨1,8,false,.other,[.undef],false,none⟩,
 ⟨1,8,false,.other,[.undef],false,none⟩,
 ⟨1,8,false,.other,[.undef],false,none⟩,
 ⟨0,0,false,.other,[.undef],false,none⟩,
 ⟨1,8,false,.other,[.undef],false,none⟩,
 ⟨1,8,false,.other,[.undef],false,none⟩,
 ⟨1,24,false,(.slice 175),[.nil],false,(some (.list (.list (.pair qS (.int .i64)))))⟩,
 ⟨1,8,false,.other,[.undef],false,none⟩,
 ⟨1,24,false,(.slice 222),[.nil],false,(some (.list (.pair qS (.int .i64))))⟩,
 ⟨1,24,false,(.slice 226),[.nil],false,(some (.list qS))⟩,
 ⟨0,0,false,.other,[.undef],false,none⟩,
 ⟨1,8,false,.other,[.undef],false,none⟩,
 ⟨0,0,false,.other,[.undef],false,none⟩,
 ⟨1,8,false,.other,[.undef],false,none⟩,
 ⟨1,24,false,(.slice 184),[.nil],false,none⟩,
 ⟨1,8,false,.other,[.undef],false,none⟩,
 ⟨1,8,false,(.ptr 32),[.nilp],false,none⟩,
 ⟨1,8,false,(.ptr 3),[.nilp],false,none⟩,
 ⟨2,16,true,(.struct [(0,4),(1,3)]),[(.bool false),(.int .i64 0)],true,(some (.pair .bool (.int .i64)))⟩,
 ⟨2,16,true,(.struct [(0,4),(1,3)]),[(.bool false),(.int .i64 0)],true,(some (.pair .bool (.int .i64)))⟩,
 ⟨1,8,false,.other,[.undef],false,none⟩,
 ⟨1,8,false,.other,[.undef],false,none⟩,
 ⟨0,0,false,.other,[.undef],false,none⟩,
 ⟨1,8,false,.other,[.undef],false,none⟩,
 ⟨1,8,false,.other,[.undef],false,none⟩,
 ⟨1,8,false,.other,[.undef],false,none⟩,
 ⟨1,8,false,.other,[.undef],false,none⟩,
 ⟨1,8,false,.other,[.undef],false,none⟩,
 ⟨1,8,false,.other,[.undef],false,none⟩,
 ⟨0,0,false,.other,[.undef],false,none⟩,
 ⟨1,8,false,.other,[.undef],false,none⟩,
 ⟨0,0,false,.other,[.undef],false,none⟩,
 ⟨1,8,false,.other,[.undef],false,none⟩,
 ⟨1,8,false,.other,[.undef],false,none⟩,
 ⟨1,8,false,.other,[.undef],false,none⟩,
 ⟨0,0,false,.other,[.undef],false,none⟩,
 ⟨1,8,false,.other,[.undef],false,none⟩,
 ⟨1,8,false,.other,[.undef],false,none⟩,
 ⟨1,8,false,.other,[.undef],false,none⟩,
 ⟨1,8,false,.other,[.undef],false,none⟩,
 ⟨1,8,false,.other,[.undef],false,none⟩,
 ⟨1,8,false,.other,[.undef],false,none⟩,
 ⟨1,8,false,.other,[.undef],false,none⟩,
 ⟨1,8,false,.other,[.undef],false,none⟩,
 ⟨1,8,false,.other,[.undef],false,none⟩,
 ⟨1,8,false,.other,[.undef],false,none⟩,
 ⟨1,8,false,.other,[.undef],false,none⟩,
 ⟨0,0,false,.other,[.undef],false,none⟩,
 ⟨1,8,false,.other,[.undef],false,none⟩,
 ⟨1,8,false,.other,[.undef],false,none⟩,
 ⟨1,8,false,.other,[.undef],false,none⟩,
 ⟨1,8,false,.other,[.undef],false,none⟩,
 ⟨1,8,false,.other,[.undef],false,none⟩,
 ⟨1,8,false,.other,[.undef],false,none⟩,
 ⟨3,24,true,(.struct [(0,30),(2,3)]),[(.int .i64 0),(.int .i64 0),(.int .i64 0)],true,(some (.pair qS (.int .i64)))⟩,
 ⟨3,24,true,(.struct [(0,30),(2,3)]),[(.int .i64 0),(.int .i64 0),(.int .i64 0)],true,(some (.pair qS (.int .i64)))⟩,
 ⟨1,8,false,.other,[.undef],false,none⟩,
 ⟨1,8,false,.other,[.undef],false,none⟩,
 ⟨2,16,true,(.struct [(0,3),(1,3)]),[(.int .i64 0),(.int .i64 0)],true,(some qS)⟩,
 ⟨2,16,true,(.struct [(0,3),(1,3)]),[(.int .i64 0),(.int .i64 0)],true,(some qS)⟩,
 ⟨1,8,false,.other,[.undef],false,none⟩,
 ⟨1,8,false,.other,[.undef],false,none⟩,
 ⟨1,8,false,.other,[.undef],false,none⟩,
 ⟨1,8,false,.other,[.undef],false,none⟩,
 ⟨1,8,false,.other,[.undef],false,none⟩,
 ⟨1,8,false,.other,[.undef],false,none⟩,
 ⟨0,0,false,.other,[.undef],false,none⟩,
 ⟨1,8,false,.other,[.undef],false,none⟩,
 ⟨1,8,false,.other,[.undef],false,none⟩,
 ⟨1,8,false,.other,[.undef],false,none⟩,
 ⟨1,8,false,.other,[.undef],false,none⟩,
 ⟨1,8,false,.other,[.undef],false,none⟩,
 ⟨3,72,true,(.struct [(0,28),(1,28),(2,28)]),[.nil,.nil,.nil],false,(some (.pair (.list (.int .i64)) (.pair (.list (.int .i64)) (.list (.int .i64)))))⟩,
 ⟨3,72,true,(.struct [(0,28),(1,28),(2,28)]),[.nil,.nil,.nil],false,(some (.pair (.list (.int .i64)) (.pair (.list (.int .i64)) (.list (.int .i64)))))⟩,
 ⟨0,0,false,.other,[.undef],false,none⟩,
 ⟨1,8,false,.other,[.undef],false,none⟩,
 ⟨1,8,false,(.ptr 245),[.nilp],false,none⟩,
 ⟨7,168,true,(.struct [(0,240),(3,28),(4,28),(5,28),(6,28)]),[.nil,.nil,.nil,.nil,.nil,.nil,.nil],false,(some (.pair (.pair (.list (.int .i64)) (.pair (.list (.int .i64)) (.list (.int .i64)))) (.pair (.list (.int .i64)) (.pair (.list (.int .i64)) (.pair (.list (.int .i64)) (.list (.int .i64)))))))⟩,
 ⟨7,168,true,(.struct [(0,240),(3,28),(4,28),(5,28),(6,28)]),[.nil,.nil,.nil,.nil,.nil,.nil,.nil],false,(some (.pair (.pair (.list (.int .i64)) (.pair (.list (.int .i64)) (.list (.int .i64)))) (.pair (.list (.int .i64)) (.pair (.list (.int .i64)) (.pair (.list (.int .i64)) (.list (.int .i64)))))))⟩,
 ⟨1,8,false,.other,[.undef],false,none⟩,
 ⟨1,8,false,.other,[.undef],false,none⟩,
 ⟨1,8,false,.other,[.undef],false,none⟩,
 ⟨1,8,false,.other,[.undef],false,none⟩,
 ⟨1,8,false,.other,[.undef],false,none⟩,
 ⟨1,8,false,.other,[.undef],false,none⟩,
 ⟨1,8,false,.other,[.undef],false,none⟩,
 ⟨1,8,false,.other,[.undef],false,none⟩,
 ⟨1,8,false,.other,[.undef],false,none⟩,
 ⟨1,8,false,.other,[.undef],false,none⟩,
 ⟨1,24,false,(.slice 258),[.nil],false,(some (.list (.one (.int .i64))))⟩,
 ⟨1,8,true,(.struct [(0,3)]),[(.int .i64 0)],true,(some (.one (.int .i64)))⟩,
 ⟨1,8,true,(.struct [(0,3)]),[(.int .i64 0)],true,(some (.one (.int .i64)))⟩,
 ⟨1,8,false,.other,[.undef],false,none⟩,
 ⟨1,8,false,.other,[.undef],false,none⟩,
 ⟨1,8,false,.other,[.undef],false,none⟩,
 ⟨1,8,false,.other,[.undef],false,none⟩,
 ⟨1,8,false,.other,[.undef],false,none⟩,
 ⟨1,8,false,.other,[.undef],false,none⟩,
 ⟨1,8,false,.other,[.undef],false,none⟩,
 ⟨1,8,false,.other,[.undef],false,none⟩,
 ⟨1,8,false,.other,[.undef],false,none⟩,
 ⟨1,8,false,.other,[.undef],false,none⟩,
 ⟨1,8,false,.other,[.undef],false,none⟩,
 ⟨1,8,false,.other,[.undef],false,none⟩,
 ⟨0,0,false,.other,[.undef],false,none⟩,
 ⟨1,8,false,.other,[.undef],false,none⟩,
 ⟨1,24,false,(.slice 4),[.nil],false,(some (.list .bool))⟩,
 ⟨1,8,false,.other,[.undef],false,none⟩,
 ⟨1,8,false,.other,[.undef],false,none⟩,
 ⟨1,8,false,.other,[.undef],false,none⟩,
 ⟨1,8,false,.other,[.undef],false,none⟩,
 ⟨1,8,false,(.ptr 258),[.nilp],false,none⟩,
 ti8,
 ⟨0,0,false,.other,[.undef],false,none⟩,
 ⟨1,8,false,.other,[.undef],false,none⟩,
 ⟨1,8,false,.other,[.undef],false,none⟩,
 ⟨1,8,false,.other,[.undef],false,none⟩,
 ⟨1,8,false,.other,[.undef],false,none⟩,
 ⟨1,8,false,.other,[.undef],false,none⟩,
 ⟨1,8,false,.other,[.undef],false,none⟩,
 ⟨1,4,false,(.int .u32),[(.int .u32 0)],false,(some (.int .u32))⟩,
 ⟨1,8,false,.other,[.undef],false,none⟩,
 ⟨1,8,false,(.int .u64),[(.int .u64 0)],false,(some (.int .u64))⟩,
 ⟨0,0,false,.other,[.undef],false,none⟩,
 ⟨1,8,false,.other,[.undef],false,none⟩,
 ⟨0,0,false,.other,[.undef],false,none⟩,
 ⟨1,8,false,.other,[.undef],false,none⟩,
 ⟨1,8,false,.other,[.undef],false,none⟩,
 ⟨1,8,false,(.int .u64),[(.int .u64 0)],false,(some (.int .u64))⟩,
 ⟨1,8,false,.other,[.undef],false,none⟩,
 ⟨1,8,false,.other,[.undef],false,none⟩,
 ⟨1,8,false,.other,[.undef],false,none⟩,
 ⟨1,8,false,.other,[.undef],false,none⟩,
 ⟨1,8,false,(.ptr 295),[.nilp],false,none⟩,
 ⟨1,8,false,.other,[.undef],false,none⟩,
 ⟨1,8,false,.other,[.undef],false,none⟩,
 ⟨4,40,true,(.struct [(0,17),(1,17),(2,17),(3,9)]),[.nilp,.nilp,.nilp,(.str ⟨#[]⟩)],false,none⟩,
 ⟨4,40,true,(.struct [(0,17),(1,17),(2,17),(3,9)]),[.nilp,.nilp,.nilp,(.str ⟨#[]⟩)],false,none⟩,
 ⟨0,0,true,(.array 0 16),[],false,none⟩,
 ⟨0,0,true,(.struct [(0,305)]),[],false,none⟩,
 ⟨0,0,true,(.struct [(0,305)]),[],false,none⟩,
 ⟨1,1,false,(.int .u8),[(.int .u8 0)],false,(some (.int .u8))⟩,
 ⟨1,1,false,(.int .u8),[(.int .u8 0)],false,(some (.int .u8))⟩,
 ⟨1,8,false,.other,[.undef],false,none⟩,
 ⟨1,8,false,(.ptr 5),[.nilp],false,none⟩,
 ⟨1,4,false,(.int .i32),[(.int .i32 0)],false,(some (.int .i32))⟩,
 ⟨1,4,false,(.int .i32),[(.int .i32 0)],false,(some (.int .i32))⟩,
 ⟨11,48,true,(.struct [(0,12),(1,12),(2,287),(3,308),(4,5),(5,5),(6,309),(7,310),(8,311),(9,312),(10,313)]),[(.int .u64 0),(.int .u64 0),(.int .u32 0),(.int .u8 0),(.int .u8 0),(.int .u8 0),(.int .u8 0),.undef,.nilp,(.int .i32 0),(.int .i32 0)],false,none⟩,
 ⟨11,48,true,(.struct [(0,12),(1,12),(2,287),(3,308),(4,5),(5,5),(6,309),(7,310),(8,311),(9,312),(10,313)]),[(.int .u64 0),(.int .u64 0),(.int .u32 0),(.int .u8 0),(.int .u8 0),(.int .u8 0),(.int .u8 0),.undef,.nilp,(.int .i32 0),(.int .i32 0)],false,none⟩,
 ⟨1,8,false,.other,[.nilp],false,none⟩]
def tt (t:Nat):TI:=ttL.getD t tiNone
set_option maxRecDepth 100000
theorem ttL_eq:ttL=(List.range 317).map (tiOf Tryz.prog):=by kernel_rfl
theorem ttL_in:ttL.all (fieldsIn 317)=true:=by kernel_rfl
theorem hmix:Tryz.prog.follows .mixedOrders=true:=by kernel_rfl
theorem ttOk:TtOk Tryz.prog tt:=ttOk_of ttL ttL_eq ttL_in
end
theorem sumq {f:FuncId} {fn:Func} {code:Code} {ts:List Ty} {rt:Type} {g:Dens ts→Option rt} {res:rt→V} {c:Nat} (E:Nat→Env) (hS:∀ k,SumsOk Tryz.prog (E k)) (hI:∀ k,InlOk Tryz.prog (E k)) (h:∀ d x,g d=some x→∃ k,evFn (E k) c f fn (encL ts d)=some (res x)) (hT:∀ k,TtOk Tryz.prog (E k).tt:=by exact fun _=>ttOk) (hf:Tryz.prog.funcs[f]? = some fn:=by kernel_rfl) (hn:(fn.name == "runtime.NumGoroutine")=false:=by kernel_rfl) (hb:fn.body=some code:=by kernel_rfl):SumOk Tryz.prog f (summ ts rt g res):=sum_k hmix E hf hn hb hT hS hI h
end
section
set_option maxRecDepth 100000
noncomputable def f77.E (k:Nat):Env:=mkEnv tt [] [] [] [] k
noncomputable def f77.code:Go.Code:=cd Tryz.f77
theorem f77.eq (k:Nat) (x0:Int×Int):evFn (f77.E k) 9 77 Tryz.f77 (encL [qS] x0) =
 bif decide (x0.1 ≥ 0) then (bif decide (x0.1<x0.2) then (some (.bool (decide (x0.2≤4096)))) else (some (.bool false))) else (some (.bool false)):=by kernel_rfl
theorem f77.inl (k:Nat):InlOk Tryz.prog (f77.E k):=inl_nil
theorem f77.sums (k:Nat):SumsOk Tryz.prog (f77.E k):=sums_nil
noncomputable def f16.E (k:Nat):Env:=mkEnv tt [] [] [] [] k
noncomputable def f16.code:Go.Code:=cd Tryz.f16
theorem f16.eq (k:Nat) (x0:Int):evFn (f16.E k) 9 16 Tryz.f16 (encL [qI] x0) =
 some (.int .i64 x0):=by kernel_rfl
theorem f16.inl (k:Nat):InlOk Tryz.prog (f16.E k):=inl_nil
theorem f16.sums (k:Nat):SumsOk Tryz.prog (f16.E k):=sums_nil
noncomputable def f73.E (k:Nat):Env:=mkEnv tt [] [] [(73,4,[.kill (rg [(2,4),(6,25)]),.tidy])] [] k
noncomputable def f73.code:Go.Code:=cd Tryz.f73
noncomputable def f73.l0 (k n:Nat) (p0:List Int) (p1:List Int) (p2:Int):Option V :=
 atPath (f73.E k) n ⟨((.ro qI p0)::(.ro qI p1)::.u::.u::.u::(.int .i64 p2)::un 20),[],[]⟩ 9 0 73 [.c 1,.c 1,.c 0,.c 1,.c 0] [] f73.code (finK tt Tryz.f73)
theorem f73.l0_eq (k n:Nat) (p0:List Int) (p1:List Int) (p2:Int):f73.l0 k (n+1) p0 p1 p2 =
 bif decide (p2<(↑p0.length:Int)) then (chk (decide (0≤p2∧p2<(↑p0.length:Int))) (chk (decide (0≤p2∧p2<(↑p1.length:Int))) (bif rd qI p0 p2 != rd qI p1 p2 then (some (.bool false)) else (f73.l0 k n p0 p1 (Go.IntKind.i64.wrap (p2+1)))))) else (some (.bool true)):=by kernel_rfl
theorem f73.eq (k:Nat) (x0:List Int) (x1:List Int):evFn (f73.E k) 9 73 Tryz.f73 (encL [(.list qI),(.list qI)] (x0,x1)) =
 bif (↑x0.length:Int) != (↑x1.length:Int) then (some (.bool false)) else (f73.l0 k k x0 x1 (0)):=by kernel_rfl
theorem f73.inl (k:Nat):InlOk Tryz.prog (f73.E k):=inl_nil
theorem f73.sums (k:Nat):SumsOk Tryz.prog (f73.E k):=sums_nil
noncomputable def f43.E (k:Nat):Env:=mkEnv tt [] [] [] [] k
noncomputable def f43.code:Go.Code:=cd Tryz.f43
theorem f43.eq (k:Nat) (x0:List Int):evFn (f43.E k) 9 43 Tryz.f43 (encL [(.list qI)] x0) =
 chk (decide (([]++x0).length*8≤140737488355328)) (some (.own qI ([]++x0))):=by kernel_rfl
theorem f43.inl (k:Nat):InlOk Tryz.prog (f43.E k):=inl_nil
theorem f43.sums (k:Nat):SumsOk Tryz.prog (f43.E k):=sums_nil
noncomputable def f78.E (k:Nat):Env:=mkEnv tt [] [] [] [] k
noncomputable def f78.code:Go.Code:=cd Tryz.f78
theorem f78.eq (k:Nat) (x0:List Int):evFn (f78.E k) 9 78 Tryz.f78 (encL [(.list qI)] x0) =
 bif (↑x0.length:Int)==0 then (both (some (.own qI ([]))) (chk (decide (([]++x0).length*8≤140737488355328)) (some (.own qI ([]++x0))))) else (chk (decide (([]++x0).length*8≤140737488355328)) (some (.own qI ([]++x0)))):=by kernel_rfl
theorem f78.inl (k:Nat):InlOk Tryz.prog (f78.E k):=inl_nil
theorem f78.sums (k:Nat):SumsOk Tryz.prog (f78.E k):=sums_nil
end
section
@[reducible] def tI:Ty:=.int .i64
@[reducible] def tL:Ty:=.list (.int .i64)
@[reducible] def tSp:Ty:=.pair (.int .i64) (.int .i64)
@[reducible] def resLE (x:List Int×Int):V:=.tup [.own tI x.1,.int .i64 x.2]
def spanMay (s:Int×Int):Bool:=decide (0≤s.1∧s.1<s.2∧s.2≤4096)
noncomputable def S77:Summ:=summ [tSp] Bool (fun s=>some (spanMay s)) .bool
theorem ok77:SumOk Tryz.prog 77 S77 :=
 sumq f77.E (fn:=Tryz.f77) (code:=f77.code) f77.sums f77.inl fun d x hx=>by
  obtain rfl:=oJ hx
  refine ⟨0,(f77.eq 0 d).trans ?_⟩
  unfold spanMay
  by_cases h1:d.fst ≥ 0 <;> by_cases h2:d.fst<d.snd <;> by_cases h3:d.snd≤4096 <;> simp [h1,h2,h3] <;> omega
noncomputable def S16:Summ:=summ [tI] Int (fun n=>some n) (.int .i64)
theorem ok16:SumOk Tryz.prog 16 S16 :=
 sumq f16.E (fn:=Tryz.f16) (code:=f16.code) f16.sums f16.inl fun d x hx=>by
  obtain rfl:=oJ hx
  exact ⟨0,f16.eq 0 d⟩
def cpy {α:Type} (b:Nat) (l:List α):Option (List α):=chk (decide (l.length*b≤140737488355328)) (some l)
noncomputable def S43:Summ:=summ [tL] (List Int) (cpy 8) (.own tI)
theorem ok43:SumOk Tryz.prog 43 S43 :=
 sumq f43.E (fn:=Tryz.f43) (code:=f43.code) f43.sums f43.inl fun d x hx=>by
  obtain ⟨hb,hx⟩:=chk_some hx
  obtain rfl:=oJ hx
  refine ⟨0,(f43.eq 0 d).trans ?_⟩
  rw [List.nil_append]
  exact chk_eq hb
noncomputable def S78:Summ:=summ [tL] (List Int) (cpy 8) (.own tI)
theorem ok78:SumOk Tryz.prog 78 S78 :=
 sumq f78.E (fn:=Tryz.f78) (code:=f78.code) f78.sums f78.inl fun d x hx=>by
  obtain ⟨hb,hx⟩:=chk_some hx
  obtain rfl:=oJ hx
  refine ⟨0,(f78.eq 0 d).trans ?_⟩
  cases d with
  |nil=>simp
  |cons m ms =>
   have h5:((((m::ms:List Int).length:Int)==0))=false:=by simp;omega
   rw [h5,cF,List.nil_append]
   exact chk_eq hb
theorem f73.same (a b:List Int) (h:a.length=b.length) (hl:a.length<4611686018427387904) (k:Nat):f73.l0 k (a.length+1) a b 0=some (.bool (sameB a b)):=by
 have hz:(a.zip b).length=a.length:=by simp [h]
 have:=loop_any0 (fun n i=>f73.l0 k n a b (i:Nat)) (a.zip b) (fun x=>x.1 != x.2) (some (.bool false)) (some (.bool true)) (fun n i x hx=>by
  obtain ⟨ha,hb⟩:=zip_get hx
  have:=idx_lt ha
  rw [f73.l0_eq,idx_lt' ha,idx_in ha,idx_in hb,rd_some (t:=tI) ha,rd_some (t:=tI) hb,wrap_succ (by omega)]
  rfl) (fun n=>by rw [hz,f73.l0_eq,end_lt];rfl) (n:=a.length+1) (by omega)
 refine this.trans ?_
 rw [any_zip_ne h]
 unfold sameB
 cases a==b <;> rfl
noncomputable def S73:Summ:=summ [tL,tL] Bool (fun d=>chk (decide (d.1.length<4611686018427387904)) (some (sameB d.1 d.2))) .bool
theorem ok73:SumOk Tryz.prog 73 S73 :=
 sumq f73.E (fn:=Tryz.f73) (code:=f73.code) f73.sums f73.inl fun d x hx=>by
  obtain ⟨hb,hx⟩:=chk_some hx
  obtain rfl:=oJ hx
  refine ⟨d.1.length+1,(f73.eq _ d.1 d.2).trans ?_⟩
  by_cases h:d.1.length=d.2.length
  ·rw [show ((d.1.length:Int) != (d.2.length:Int))=false by simp [h],cF]
   exact f73.same d.1 d.2 h (by simpa using hb) _
  ·rw [show ((d.1.length:Int) != (d.2.length:Int))=true by simp;omega]
   rw [sameB_ne fun e=>h (by rw [e]),cT]
end
section
set_option maxRecDepth 100000
set_option linter.unusedVariables false
end
section
set_option linter.unusedVariables false
end
section
@[reducible] def tLk:Ty:=.pair (.int .i64) (.pair (.int .i64) (.int .i64))
@[reducible] def tG:Ty:=.pair (.int .i64) (.list (.pair (.int .i64) (.pair (.int .i64) (.int .i64))))
abbrev Lk:=Int×(Int×Int)
abbrev Gr:=Int×List Lk
abbrev maxRate:Int:=4611686018427387904
def rateB (x:Int):Bool:=decide (0≤x∧x≤maxRate)
def sumUp:Int→List Int→Option Int
 |a,[]=>some a
 |a,x::xs=>bif decide (0≤x∧x≤maxRate - a) then sumUp (a+x) xs else none
def hasV (n v:Int):Bool:=decide (0≤v∧v<n)
def linkOk (n:Int) (l:Lk):Bool:=hasV n l.1&&(hasV n l.2.1 && !(l.1==l.2.1))
def capsOf (g:Gr):List Int:=g.2.map fun l=>l.2.2
def shapeB (g:Gr):Bool:=decide (2≤g.1∧g.1≤8)&&(decide (g.2.length≤16)&&g.2.all (linkOk g.1))
def graphMay (g:Gr):Bool:=shapeB g&&(sumUp 0 (capsOf g)).isSome
def amongB (vs:List Int) (v:Int):Bool:=vs.any fun x=>x==v
def risingB (n:Int):Option Int→List Int→Bool
 |_,[]=>true
 |p,v::vs=>hasV n v&&((match p with|none=>true|some q=>decide (q<v))&&risingB n (some v) vs)
def withinL:List Int→List Lk→Bool
 | [],[]=>true
 |c::cs,l::ls=>decide (0≤c∧c≤l.2.2)&&withinL cs ls
 |_,_=>false
def capsMay (g:Gr) (cs:List Int):Bool:=graphMay g&&withinL cs g.2
def leavesB (vs:List Int) (l:Lk):Bool:=amongB vs l.1 && !amongB vs l.2.1
def leaveFrom (vs:List Int):Nat→List Lk→List Int
 |_,[]=>[]
 |i,l::ls=>bif leavesB vs l then (i:Int)::leaveFrom vs (i+1) ls else leaveFrom vs (i+1) ls
def leaving (g:Gr) (vs:List Int):List Int×Int :=
 bif risingB g.1 none vs&&graphMay g then (leaveFrom vs 0 g.2,0) else ([],800)
def worthL (vs:List Int):List Lk→List Int→Int
 |l::ls,c::cs=>(bif leavesB vs l then c else 0)+worthL vs ls cs
 |_,_=>0
def worth (g:Gr) (cs vs:List Int):Int×Int :=
 bif risingB g.1 none vs&&capsMay g cs then (worthL vs g.2 cs,0) else (0,800)
def cutMay (g:Gr) (src dst:Int) (vs:List Int):Bool :=
 (risingB g.1 none vs&&graphMay g)&&(hasV g.1 dst&&(amongB vs src && !amongB vs dst))
def proves (g:Gr) (cs:List Int) (src dst want:Int) (vs:List Int):Bool×Int :=
 bif capsMay g cs then (cutMay g src dst vs&&decide (worthL vs g.2 cs<want),0) else (false,800)
theorem sumUp_lo:∀ (xs:List Int) (a t:Int),sumUp a xs=some t→0≤a→a≤maxRate→a≤t∧t≤maxRate∧∀ x∈xs,0≤x∧x≤maxRate
 | [],a,t,h,h0,h1=>by
  simp only [sumUp,sI] at h
  subst h
  exact ⟨by omega,h1,by simp⟩
 |x::xs,a,t,h,h0,h1=>by
  simp only [sumUp] at h
  by_cases hx:0≤x∧x≤maxRate - a
  ·rw [dT hx,cT] at h
   obtain ⟨h2,h3,h4⟩:=sumUp_lo xs (a+x) t h (by omega) (by omega)
   refine ⟨by omega,h3,fun y hy=>?_⟩
   rcases List.mem_cons.1 hy with rfl|hy
   ·constructor <;> omega
   ·exact h4 y hy
  ·rw [dF hx,cF] at h
   cases h
theorem sum_nonneg':∀ (xs:List Int),(∀ x∈xs,0≤x)→0≤xs.sum
 | [],_=>by simp
 |x::xs,h=>by
  have:=h x (by simp)
  have:=sum_nonneg' xs fun y hy=>h y (by simp [hy])
  rw [List.sum_cons]
  omega
theorem sumUp_eq:∀ (xs:List Int) (a:Int),(∀ x∈xs,0≤x)→0≤a→a+xs.sum≤maxRate→sumUp a xs=some (a+xs.sum)
 | [],a,_,_,_=>by simp [sumUp]
 |x::xs,a,h,h0,h1=>by
  have hx:=h x (by simp)
  have hs:0≤xs.sum:=sum_nonneg' xs fun y hy=>h y (by simp [hy])
  rw [List.sum_cons] at h1
  simp only [sumUp]
  rw [dT (by omega:0≤x∧x≤maxRate - a),cT,sumUp_eq xs (a+x) (fun y hy=>h y (by simp [hy])) (by omega) (by omega),List.sum_cons]
  congr 1
  omega
theorem sumUp_sum:∀ (xs:List Int) (a t:Int),sumUp a xs=some t→t=a+xs.sum
 | [],a,t,h=>by simp only [sumUp,sI] at h;simp [h]
 |x::xs,a,t,h=>by
  simp only [sumUp] at h
  cases hd:decide (0≤x∧x≤maxRate - a) with
  |false=>rw [hd,cF] at h;cases h
  |true =>
   rw [hd,cT] at h
   have:=sumUp_sum xs (a+x) t h
   rw [List.sum_cons]
   omega
theorem withinL_len:∀ {cs:List Int} {ls:List Lk},withinL cs ls=true→cs.length=ls.length
 | [],[],_=>rfl
 |c::cs,l::ls,h=>by
  simp only [withinL,bA] at h
  simp [withinL_len h.2]
 | [],_::_,h=>by simp [withinL] at h
 |_::_,[],h=>by simp [withinL] at h
theorem worthL_le (vs:List Int):∀ {ls:List Lk} {cs:List Int},withinL cs ls=true→0≤worthL vs ls cs∧worthL vs ls cs≤(ls.map fun l=>l.2.2).sum
 | [],[],_=>by simp [worthL]
 |l::ls,c::cs,h=>by
  simp only [withinL,bA] at h
  have hc:=oD h.1
  have ih:=worthL_le vs h.2
  simp only [worthL,List.map_cons,List.sum_cons]
  cases leavesB vs l <;> simp only [cT,cF] <;> constructor <;> omega
 | [],_::_,h=>by simp [withinL] at h
 |_::_,[],h=>by simp [withinL] at h
theorem worth_lo {g:Gr} {cs:List Int} (h:capsMay g cs=true) (vs:List Int):0≤worthL vs g.2 cs∧worthL vs g.2 cs≤maxRate:=by
 simp only [capsMay,graphMay,bA] at h
 obtain ⟨⟨_,h1⟩,h2⟩:=h
 obtain ⟨t,ht⟩:=Option.isSome_iff_exists.1 h1
 have:=sumUp_lo _ _ _ ht (by omega) (by decide)
 have hs:=sumUp_sum _ _ _ ht
 have hw:=worthL_le vs h2
 have e:(capsOf g).sum=(g.2.map fun l=>l.2.2).sum:=rfl
 omega
end
section
set_option maxRecDepth 100000
set_option linter.unusedVariables false
end
section
set_option linter.unusedVariables false
end
section
set_option maxRecDepth 100000
noncomputable def f237.E (k:Nat):Env:=mkEnv tt [] [(247,Tryz.f247)] [(247,2,[.kill (rg [(2,6),(9,18)]),.tidy])] [(247,448,(rg [(0,6),(8,8)]))] k
noncomputable def f237.code:Go.Code:=cd Tryz.f237
noncomputable def f237.l0 (k n:Nat) (p0:List Int) (p1:Int) (p2:Int) (p3:Int):Option V :=
 atPath (f237.E k) n ⟨((.ro qI p0)::(.int .i64 p1)::.u::.u::.u::.u::.u::(.int .i64 p2)::(.int .i64 p3)::un 10),[(un 9)],[]⟩ 9 0 237 [.c 1,.c 0,.call 2 247,.c 1,.c 0,.c 1,.c 0] [] f237.code (finK tt Tryz.f237)
theorem f237.l0_eq (k n:Nat) (p0:List Int) (p1:Int) (p2:Int) (p3:Int):f237.l0 k (n+1) p0 p1 p2 p3 =
 bif decide (p3<p2) then (chk (decide ((0:Int)≤p3∧p3<(↑p0.length:Int))) (bif p1==rd qI p0 p3 then (some (.bool (decide (p3 ≥ (0:Int))))) else (f237.l0 k n p0 p1 p2 (Go.IntKind.i64.wrap (p3+(1:Int)))))) else (some (.bool (decide ((-1:Int) ≥ (0:Int))))):=by kernel_rfl
theorem f237.eq (k:Nat) (x0:List Int) (x1:Int):evFn (f237.E k) 9 237 Tryz.f237 (encL [(.list qI),qI] (x0,x1)) =
 f237.l0 k k x0 x1 ((↑x0.length:Int)) 0:=by kernel_rfl
theorem f237.inl (k:Nat):InlOk Tryz.prog (f237.E k):=(inl_cons (by kernel_rfl) (by kernel_rfl) inl_nil)
theorem f237.sums (k:Nat):SumsOk Tryz.prog (f237.E k):=sums_nil
noncomputable def f121.E (k:Nat):Env:=mkEnv tt [] [] [] [] k
noncomputable def f121.code:Go.Code:=cd Tryz.f121
theorem f121.eq (k:Nat) (x0:Int×List (eL)) (x1:Int):evFn (f121.E k) 9 121 Tryz.f121 (encL [(.pair qI (.list qL)),qI] (x0,x1)) =
 bif decide (x1 ≥ (0:Int)) then (some (.bool (decide (x1<x0.1)))) else (some (.bool false)):=by kernel_rfl
theorem f121.inl (k:Nat):InlOk Tryz.prog (f121.E k):=inl_nil
theorem f121.sums (k:Nat):SumsOk Tryz.prog (f121.E k):=sums_nil
noncomputable def f65.E (k:Nat):Env:=mkEnv tt [] [] [] [] k
noncomputable def f65.code:Go.Code:=cd Tryz.f65
theorem f65.eq (k:Nat) (x0:Int×List (eL)) (x1:Int):evFn (f65.E k) 9 65 Tryz.f65 (encL [(.pair qI (.list qL)),qI] (x0,x1)) =
 bif decide (x1 ≥ (0:Int)) then (some (.bool (decide (x1<x0.1)))) else (some (.bool false)):=by kernel_rfl
theorem f65.inl (k:Nat):InlOk Tryz.prog (f65.E k):=inl_nil
theorem f65.sums (k:Nat):SumsOk Tryz.prog (f65.E k):=sums_nil
noncomputable def f122.E (k:Nat):Env:=mkEnv tt [] [] [] [] k
noncomputable def f122.code:Go.Code:=cd Tryz.f122
theorem f122.eq (k:Nat) (x0:Int):evFn (f122.E k) 9 122 Tryz.f122 (encL [qI] x0) =
 bif decide (x0 ≥ (0:Int)) then (some (.bool (decide (x0≤(4611686018427387904:Int))))) else (some (.bool false)):=by kernel_rfl
theorem f122.inl (k:Nat):InlOk Tryz.prog (f122.E k):=inl_nil
theorem f122.sums (k:Nat):SumsOk Tryz.prog (f122.E k):=sums_nil
noncomputable def f174.E (k:Nat):Env:=mkEnv tt [] [(122,Tryz.f122)] [(174,3,[.kill (rg [(0,3),(5,6),(10,26)]),.tidy])] [] k
noncomputable def f174.code:Go.Code:=cd Tryz.f174
noncomputable def f174.l0 (k n:Nat) (p0:Int) (p1:List Int) (p2:Int) (p3:Int):Option V :=
 atPath (f174.E k) n ⟨(.u::.u::.u::.u::(.int .i64 p0)::.u::.u::(.ro qI p1)::(.int .i64 p2)::(.int .i64 p3)::un 17),[],[]⟩ 9 0 174 [.c 1,.c 1,.c 0,.c 1,.c 0] [] f174.code (finK tt Tryz.f174)
theorem f174.l0_eq (k n:Nat) (p0:Int) (p1:List Int) (p2:Int) (p3:Int):f174.l0 k (n+1) p0 p1 p2 p3 =
 bif decide (p3<p2) then (chk (decide ((0:Int)≤p3∧p3<(↑p1.length:Int))) (bif decide (rd qI p1 p3 ≥ (0:Int)) then (bif !decide (rd qI p1 p3≤(4611686018427387904:Int)) then (some (.tup [(.int .i64 0),(.bool false)])) else (bif decide (rd qI p1 p3>Go.IntKind.i64.wrap ((4611686018427387904:Int) - p0)) then (some (.tup [(.int .i64 0),(.bool false)])) else (f174.l0 k n (Go.IntKind.i64.wrap (p0+rd qI p1 p3)) p1 p2 (Go.IntKind.i64.wrap (p3+(1:Int)))))) else (some (.tup [(.int .i64 0),(.bool false)])))) else (some (.tup [(.int .i64 p0),(.bool true)])):=by kernel_rfl
theorem f174.eq (k:Nat) (x0:List Int):evFn (f174.E k) 9 174 Tryz.f174 (encL [(.list qI)] x0) =
 f174.l0 k k 0 x0 ((↑x0.length:Int)) 0:=by kernel_rfl
theorem f174.inl (k:Nat):InlOk Tryz.prog (f174.E k):=(inl_cons (by kernel_rfl) (by kernel_rfl) inl_nil)
theorem f174.sums (k:Nat):SumsOk Tryz.prog (f174.E k):=sums_nil
noncomputable def f175.E (k:Nat):Env:=mkEnv tt [] [] [(175,3,[.kill (rg [(0,2),(4,6),(10,19)]),.tidy])] [] k
noncomputable def f175.code:Go.Code:=cd Tryz.f175
noncomputable def f175.l0 (k n:Nat) (p0:List (eL)) (p1:Int) (p2:Int) (p3:List Int):Option V :=
 atPath (f175.E k) n ⟨(.u::.u::.u::(.slw 786448)::.u::.u::.u::(.ro qL p0)::(.int .i64 p1)::(.int .i64 p2)::un 10),[],[(786448,.row qI p3)]⟩ 9 0 175 [.c 1,.c 1,.c 0,.c 1,.c 0] [] f175.code (finK tt Tryz.f175)
theorem f175.l0_eq (k n:Nat) (p0:List (eL)) (p1:Int) (p2:Int) (p3:List Int):f175.l0 k (n+1) p0 p1 p2 p3 =
 bif decide (p2<p1) then (chk (decide ((0:Int)≤p2∧p2<(↑p0.length:Int))) (chk (decide ((p3++[(rd qL p0 p2).2.2]).length*8≤140737488355328)) (f175.l0 k n p0 p1 (Go.IntKind.i64.wrap (p2+(1:Int))) (p3++[(rd qL p0 p2).2.2])))) else (some (.own qI p3)):=by kernel_rfl
theorem f175.eq (k:Nat) (x0:Int×List (eL)):evFn (f175.E k) 9 175 Tryz.f175 (encL [(.pair qI (.list qL))] x0) =
 f175.l0 k k x0.2 ((↑(x0.2.length):Int)) 0 ([]):=by kernel_rfl
theorem f175.inl (k:Nat):InlOk Tryz.prog (f175.E k):=inl_nil
theorem f175.sums (k:Nat):SumsOk Tryz.prog (f175.E k):=sums_nil
end
section
theorem any_eq_comm (vs:List Int) (v:Int):(vs.any fun x=>v==x)=amongB vs v:=by
 unfold amongB
 congr 1
 funext x
 rw [Bool.eq_iff_iff,beq_iff_eq,beq_iff_eq]
 exact eq_comm
noncomputable def S184:Summ:=summ [tL,tI] Bool (fun (d:List Int×Int)=>chk (decide (d.1.length<4611686018427387904)) (some (amongB d.1 d.2))) .bool
noncomputable def S237:Summ:=S184
theorem ok237:SumOk Tryz.prog 237 S237 :=
 sumq f237.E (fn:=Tryz.f237) (code:=f237.code) f237.sums f237.inl fun (d:List Int×Int) x hx=>by
  obtain ⟨hb,hx⟩:=chk_some hx
  obtain rfl:=oJ hx
  have hb:d.1.length<4611686018427387904:=by simpa using hb
  refine ⟨d.1.length+1,(f237.eq _ d.1 d.2).trans ?_⟩
  have:=loop_any0 (fun n i=>f237.l0 (d.1.length+1) n d.1 d.2 d.1.length (i:Nat)) d.1 (fun x=>d.2==x) (some (.bool true)) (some (.bool false)) (fun n i x hx=>by
   have:=idx_lt hx
   rw [f237.l0_eq,idx_lt' hx,idx_in hx,rd_some (t:=tI) hx,wrap_succ (by omega),cT,kT,show decide ((i:Int) ≥ 0)=true by simp]) (fun n=>by rw [f237.l0_eq,end_lt,cF];rfl) (n:=d.1.length+1) (by omega)
  refine this.trans ?_
  rw [any_eq_comm]
  cases amongB d.1 d.2 <;> rfl
theorem hasV_tree (n v:Int):(bif decide (v ≥ 0) then some (V.bool (decide (v<n))) else some (.bool false))=some (.bool (hasV n v)):=by
 unfold hasV
 by_cases h:v ≥ 0
 ·rw [dT h,cT,show decide (v<n)=decide (0≤v∧v<n) from decide_eq_decide.2 (by omega)]
 ·rw [dF h,cF,dF (by omega)]
noncomputable def S121:Summ:=summ [tG,tI] Bool (fun (d:Gr×Int)=>some (hasV d.1.1 d.2)) .bool
theorem ok121:SumOk Tryz.prog 121 S121 :=
 sumq f121.E (fn:=Tryz.f121) (code:=f121.code) f121.sums f121.inl fun (d:Gr×Int) x hx=>by
  obtain rfl:=oJ hx
  exact ⟨0,(f121.eq _ d.1 d.2).trans (hasV_tree _ _)⟩
noncomputable def S65:Summ:=S121
theorem ok65:SumOk Tryz.prog 65 S65 :=
 sumq f65.E (fn:=Tryz.f65) (code:=f65.code) f65.sums f65.inl fun (d:Gr×Int) x hx=>by
  obtain rfl:=oJ hx
  exact ⟨0,(f65.eq _ d.1 d.2).trans (hasV_tree _ _)⟩
theorem rateB_tree (v:Int):(bif decide (v ≥ 0) then some (V.bool (decide (v≤4611686018427387904))) else some (.bool false))=some (.bool (rateB v)):=by
 unfold rateB
 by_cases h:v ≥ 0
 ·rw [dT h,cT,show decide (v≤4611686018427387904)=decide (0≤v∧v≤maxRate) from decide_eq_decide.2 ⟨fun h1=>⟨h,h1⟩,fun h1=>h1.2⟩]
 ·rw [dF h,cF,dF (fun h1=>h h1.1)]
noncomputable def S122:Summ:=summ [tI] Bool (fun (d:Int)=>some (rateB d)) .bool
theorem ok122:SumOk Tryz.prog 122 S122 :=
 sumq f122.E (fn:=Tryz.f122) (code:=f122.code) f122.sums f122.inl fun (d:Int) x hx=>by
  obtain rfl:=oJ hx
  exact ⟨0,(f122.eq _ d).trans (rateB_tree _)⟩
def sumTold (xs:List Int):Int×Bool:=match sumUp 0 xs with
 |some t=>(t,true)
 |none=>(0,false)
@[reducible] def resIB (x:Int×Bool):V:=.tup [.int .i64 x.1,.bool x.2]
noncomputable def S174:Summ:=summ [tL] (Int×Bool) (fun (d:List Int)=>chk (decide (d.length<4611686018427387904)) (some (sumTold d))) resIB
theorem f174.l0_is (k:Nat) (xs:List Int) (hl:xs.length<4611686018427387904):∀ (n i:Nat) (a:Int),i≤xs.length→xs.length<n+i→0≤a→a≤maxRate →
  f174.l0 k n a xs xs.length i=some (resIB (match sumUp a (xs.drop i) with|some t=>(t,true)|none=>(0,false)))
 |0,i,_,h,h',_,_=>by omega
 |n+1,i,a,h,h',h0,h1=>by
  by_cases hlt:i<xs.length
  ·have hx:=gE hlt
   have h1':a≤4611686018427387904:=h1
   rw [f174.l0_eq,idx_lt' hx,idx_in hx,rd_some (t:=tI) hx,wrap_succ (by omega),wrap64 (n:=4611686018427387904 - a) (by omega),List.drop_eq_getElem_cons hlt,cT,kT]
   simp only [sumUp]
   generalize xs[i]=x
   by_cases hd:0≤x∧x≤maxRate - a
   ·have hd2:x≤4611686018427387904 - a:=hd.2
    rw [dT hd,cT,dT (by omega:x ≥ 0),cT,dT (by omega:x≤4611686018427387904),nT,cF,dF (by omega:¬ x>4611686018427387904 - a),cF,wrap64 (n:=a+x) (by omega)]
    exact f174.l0_is k xs hl n (i+1) (a+x) (by omega) (by omega) (by omega) (show a+x≤4611686018427387904 by omega)
   ·rw [dF hd,cF]
    by_cases hx0:x ≥ 0
    ·rw [dT hx0,cT]
     by_cases hx1:x≤4611686018427387904
     ·have:x>4611686018427387904 - a:=by
       have:¬ x≤4611686018427387904 - a:=fun hh=>hd ⟨hx0,hh⟩
       omega
      rw [dT hx1,nT,cF,dT this,cT]
     ·rw [dF hx1,nF,cT]
    ·rw [dF hx0,cF]
  ·obtain rfl:i=xs.length:=by omega
   rw [f174.l0_eq,end_lt,cF,List.drop_length]
   rfl
theorem ok174:SumOk Tryz.prog 174 S174 :=
 sumq f174.E (fn:=Tryz.f174) (code:=f174.code) f174.sums f174.inl fun (d:List Int) x hx=>by
  obtain ⟨hb,hx⟩:=chk_some hx
  obtain rfl:=oJ hx
  have hb:d.length<4611686018427387904:=by simpa using hb
  exact ⟨d.length+1,(f174.eq _ d).trans (f174.l0_is _ d hb _ 0 0 (by omega) (by omega) (by omega) (by decide))⟩
noncomputable def S175:Summ:=summ [tG] (List Int) (fun (g:Gr)=>chk (decide (g.2.length≤16777216)) (some (capsOf g))) (.own tI)
theorem f175.l0_is (k:Nat) (ls:List Lk) (hl:ls.length≤16777216):∀ (n i:Nat),i≤ls.length→ls.length<n+i →
  f175.l0 k n ls ls.length i ((ls.take i).map fun l=>l.2.2)=some (.own tI (ls.map fun l=>l.2.2))
 |0,i,h,h'=>by omega
 |n+1,i,h,h'=>by
  by_cases hlt:i<ls.length
  ·have hx:=gE hlt
   have e:(ls.take i).map (fun l=>l.2.2)++[ls[i].2.2]=(ls.take (i+1)).map fun l=>l.2.2:=by
    rw [List.take_add_one,hx,List.map_append]
    rfl
   rw [f175.l0_eq,idx_lt' hx,idx_in hx,rd_some (t:=tLk) hx,wrap_succ (by omega),cT,kT,e,chk_eq (by simp;omega)]
   exact f175.l0_is k ls hl n (i+1) (by omega) (by omega)
  ·obtain rfl:i=ls.length:=by omega
   rw [f175.l0_eq,end_lt,cF,List.take_length]
theorem ok175:SumOk Tryz.prog 175 S175 :=
 sumq f175.E (fn:=Tryz.f175) (code:=f175.code) f175.sums f175.inl fun (d:Gr) x hx=>by
  obtain ⟨hb,hx⟩:=chk_some hx
  obtain rfl:=oJ hx
  have hb:d.2.length≤16777216:=by simpa using hb
  exact ⟨d.2.length+1,(f175.eq _ d).trans (f175.l0_is _ d.2 hb _ 0 (by omega) (by omega))⟩
end
section
set_option linter.unusedVariables false
end
section
set_option maxRecDepth 100000
noncomputable def f120.E (k:Nat):Env:=mkEnv tt [(121,S121),(174,S174),(175,S175)] [] [(120,4,[.kill (rg [(0,0),(2,21),(25,54)]),.tidy])] [] k
noncomputable def f120.code:Go.Code:=cd Tryz.f120
noncomputable def f120.l0 (k n:Nat) (p0:List (eL)) (p1:Int) (p2:Int) (p3:Int):Option V :=
 atPath (f120.E k) n ⟨(.u::(.ptr 262160 (0) (0))::.u::.u::.u::.u::.u::.u::.u::.u::.u::.u::.u::.u::.u::.u::.u::.u::.u::.u::.u::.u::(.ro qL p0)::(.int .i64 p1)::(.int .i64 p2)::un 30),[],[(262160,.box [(.int .i64 p3),(.ro qL p0)])]⟩ 9 0 120 [.c 1,.c 1,.c 0,.c 1,.c 0] [] f120.code (finK tt Tryz.f120)
theorem f120.l0_eq (k n:Nat) (p0:List (eL)) (p1:Int) (p2:Int) (p3:Int):f120.l0 k (n+1) p0 p1 p2 p3 =
 bif decide (p2<p1) then (chk (decide ((0:Int)≤p2∧p2<(↑p0.length:Int))) (bif !hasV p3 (rd qL p0 p2).1 then (some (.bool false)) else (bif !hasV p3 (rd qL p0 p2).2.1 then (some (.bool false)) else (bif (rd qL p0 p2).1==(rd qL p0 p2).2.1 then (some (.bool false)) else (f120.l0 k n p0 p1 (Go.IntKind.i64.wrap (p2+(1:Int))) p3))))) else ((chk (decide (p0.length≤16777216)) (some (capsOf (p3,p0)))).bind (fun y0=>(chk (decide (y0.length<4611686018427387904)) (some (sumTold y0))).bind (fun y1=>some (.bool y1.2)))):=by kernel_rfl
theorem f120.eq (k:Nat) (x0:Int×List (eL)):evFn (f120.E k) 9 120 Tryz.f120 (encL [(.pair qI (.list qL))] x0) =
 bif decide (x0.1<(2:Int)) then (some (.bool false)) else (bif decide (x0.1>(8:Int)) then (some (.bool false)) else (bif decide ((↑(x0.2.length):Int)>(16:Int)) then (some (.bool false)) else (f120.l0 k k x0.2 ((↑(x0.2.length):Int)) 0 x0.1))):=by kernel_rfl
theorem f120.inl (k:Nat):InlOk Tryz.prog (f120.E k):=inl_nil
theorem f120.sums (k:Nat):SumsOk Tryz.prog (f120.E k):=(sums_cons ok121 (sums_cons ok174 (sums_cons ok175 sums_nil)))
noncomputable def f64.E (k:Nat):Env:=mkEnv tt [(65,S65)] [] [(64,5,[.kill (rg [(0,0),(2,2),(5,66)]),.tidy])] [] k
noncomputable def f64.code:Go.Code:=cd Tryz.f64
noncomputable def f64.l0 (k n:Nat) (p0:Int) (p1:Int) (p2:Int) (p3:List (eL)):Option V :=
 atPath (f64.E k) n ⟨(.u::(.ptr 262160 (0) (0))::.u::(.int .i64 p0)::(.int .i64 p1)::un 62),[],[(262160,.box [(.int .i64 p2),(.ro qL p3)])]⟩ 9 0 64 [.c 1,.c 1,.c 1,.c 0,.c 1,.c 0] [] f64.code (finK tt Tryz.f64)
theorem f64.l0_eq (k n:Nat) (p0:Int) (p1:Int) (p2:Int) (p3:List (eL)):f64.l0 k (n+1) p0 p1 p2 p3 =
 bif decide (p1<(↑p3.length:Int)) then (chk (decide ((0:Int)≤p1∧p1<(↑p3.length:Int))) (bif !hasV p2 (rd qL p3 p1).1 then (some (.bool false)) else (bif !hasV p2 (rd qL p3 p1).2.1 then (some (.bool false)) else (bif (rd qL p3 p1).1==(rd qL p3 p1).2.1 then (some (.bool false)) else (bif decide ((rd qL p3 p1).2.2<(0:Int)) then (some (.bool false)) else (bif decide ((rd qL p3 p1).2.2>Go.IntKind.i64.wrap ((4611686018427387904:Int) - p0)) then (some (.bool false)) else (f64.l0 k n (Go.IntKind.i64.wrap (p0+(rd qL p3 p1).2.2)) (Go.IntKind.i64.wrap (p1+(1:Int))) p2 p3))))))) else (some (.bool true)):=by kernel_rfl
theorem f64.eq (k:Nat) (x0:Int×List (eL)):evFn (f64.E k) 9 64 Tryz.f64 (encL [(.pair qI (.list qL))] x0) =
 bif decide (x0.1<(2:Int)) then (some (.bool false)) else (bif decide (x0.1>(8:Int)) then (some (.bool false)) else (bif decide ((↑(x0.2.length):Int)>(16:Int)) then (some (.bool false)) else (f64.l0 k k 0 0 x0.1 x0.2))):=by kernel_rfl
theorem f64.inl (k:Nat):InlOk Tryz.prog (f64.E k):=inl_nil
theorem f64.sums (k:Nat):SumsOk Tryz.prog (f64.E k):=(sums_cons ok65 sums_nil)
end
section
theorem sumTold_ok (xs:List Int):(sumTold xs).2=(sumUp 0 xs).isSome:=by
 unfold sumTold
 cases sumUp 0 xs <;> rfl
theorem shape_tree (g:Gr) (r:Bool) (h:g.2.length≤16→r=(g.2.all (linkOk g.1)&&(sumUp 0 (capsOf g)).isSome)) :
  (bif decide (g.1<2) then some (V.bool false) else (bif decide (g.1>8) then (some (.bool false)) else (bif decide ((g.2.length:Int)>16) then (some (.bool false)) else some (.bool r))))=some (.bool (graphMay g)):=by
 unfold graphMay shapeB
 by_cases h1:g.1<2
 ·rw [dT h1,cT,dF (by omega:¬ (2≤g.1∧g.1≤8))]
  rfl
 ·rw [dF h1,cF]
  by_cases h2:g.1>8
  ·rw [dT h2,cT,dF (by omega:¬ (2≤g.1∧g.1≤8))]
   rfl
  ·rw [dF h2,cF,dT (by omega:2≤g.1∧g.1≤8)]
   by_cases h3:g.2.length≤16
   ·rw [dF (by omega:¬ ((g.2.length:Int)>16)),cF,dT h3,h h3,tA,tA]
   ·rw [dT (by omega:(g.2.length:Int)>16),cT,dF h3]
    rfl
noncomputable def S120:Summ:=summ [tG] Bool (fun (g:Gr)=>some (graphMay g)) .bool
theorem link_tree (n:Int) (l:Lk) (x:Option V):(bif !hasV n l.1 then some (V.bool false) else (bif !hasV n l.2.1 then (some (.bool false)) else (bif l.1==l.2.1 then (some (.bool false)) else x)))=bif !linkOk n l then some (.bool false) else x:=by
 unfold linkOk
 cases hasV n l.1 <;> cases hasV n l.2.1 <;> cases l.1==l.2.1 <;> simp only [nT,nF,tA,fA,cT,cF]
theorem f120.l0_is (k:Nat) (g:Gr) (hl:g.2.length≤16) (hk:16<k) :
  f120.l0 k k g.2 g.2.length 0 g.1=some (.bool (g.2.all (linkOk g.1)&&(sumUp 0 (capsOf g)).isSome)):=by
 have:=loop_any0 (fun n i=>f120.l0 k n g.2 g.2.length (i:Nat) g.1) g.2 (fun l=>!linkOk g.1 l) (some (.bool false)) (some (.bool (sumUp 0 (capsOf g)).isSome)) (fun n i x hx=>by
  have:=idx_lt hx
  rw [f120.l0_eq,idx_lt' hx,idx_in hx,rd_some (t:=tLk) hx,wrap_succ (by omega),cT,kT,link_tree]) (fun n=>by
  rw [f120.l0_eq,end_lt,cF,chk_eq (by simp;omega),bS,chk_eq (by simp [capsOf];omega),bS,sumTold_ok]) (n:=k) (by omega)
 refine this.trans ?_
 rw [← List.not_all_eq_any_not]
 cases g.2.all (linkOk g.1)
 ·rw [nF,cT,fA]
 ·rw [nT,cF,tA]
theorem ok120:SumOk Tryz.prog 120 S120 :=
 sumq f120.E (fn:=Tryz.f120) (code:=f120.code) f120.sums f120.inl fun (g:Gr) x hx=>by
  obtain rfl:=oJ hx
  refine ⟨17,(f120.eq _ g).trans ?_⟩
  by_cases hl:g.2.length≤16
  ·rw [f120.l0_is 17 g hl (by omega)]
   exact shape_tree g _ fun _=>rfl
  ·rw [← shape_tree g true fun h=>absurd h hl,dT (by omega:(g.2.length:Int)>16),cT,cT]
noncomputable def S64:Summ:=S120
theorem f64.l0_is (k:Nat) (g:Gr) (hl:g.2.length≤16):∀ (n i:Nat) (a:Int),i≤g.2.length→g.2.length<n+i→0≤a→a≤maxRate →
  f64.l0 k n a i g.1 g.2=some (.bool ((g.2.drop i).all (linkOk g.1)&&(sumUp a ((g.2.drop i).map fun l=>l.2.2)).isSome))
 |0,i,_,h,h',_,_=>by omega
 |n+1,i,a,h,h',h0,h1=>by
  have h1':a≤4611686018427387904:=h1
  by_cases hlt:i<g.2.length
  ·have hx:=gE hlt
   rw [f64.l0_eq,idx_lt' hx,idx_in hx,rd_some (t:=tLk) hx,wrap_succ (by omega),wrap64 (n:=4611686018427387904 - a) (by omega),cT,kT,link_tree,List.drop_eq_getElem_cons hlt]
   simp only [List.all_cons,List.map_cons,sumUp]
   generalize g.2[i]=l
   cases linkOk g.1 l with
   |false=>rw [nF,cT];rfl
   |true =>
    rw [nT,cF,tA]
    by_cases hd:0≤l.2.2∧l.2.2≤maxRate - a
    ·have hd2:l.2.2≤4611686018427387904 - a:=hd.2
     rw [dT hd,cT,dF (by omega:¬ l.2.2<0),cF,dF (by omega:¬ l.2.2>4611686018427387904 - a),cF,wrap64 (n:=a+l.2.2) (by omega)]
     exact f64.l0_is k g hl n (i+1) (a+l.2.2) (by omega) (by omega) (by omega) (show a+l.2.2≤4611686018427387904 by omega)
    ·rw [dF hd,cF,Option.isSome_none,Bool.and_false]
     by_cases hx0:l.2.2<0
     ·rw [dT hx0,cT]
     ·have:l.2.2>4611686018427387904 - a:=by
       have:¬ l.2.2≤4611686018427387904 - a:=fun hh=>hd ⟨by omega,hh⟩
       omega
      rw [dF hx0,cF,dT this,cT]
  ·obtain rfl:i=g.2.length:=by omega
   rw [f64.l0_eq,end_lt,cF,List.drop_length]
   rfl
theorem ok64:SumOk Tryz.prog 64 S64 :=
 sumq f64.E (fn:=Tryz.f64) (code:=f64.code) f64.sums f64.inl fun (g:Gr) x hx=>by
  obtain rfl:=oJ hx
  refine ⟨17,(f64.eq _ g).trans ?_⟩
  by_cases hl:g.2.length≤16
  ·have:=f64.l0_is 17 g hl 17 0 0 (by omega) (by omega) (by omega) (by decide)
   rw [List.drop_zero] at this
   have e:f64.l0 17 17 0 0 g.1 g.2=_:=this
   rw [e]
   exact shape_tree g _ fun _=>rfl
  ·rw [← shape_tree g true fun h=>absurd h hl,dT (by omega:(g.2.length:Int)>16),cT,cT]
def ahead (vs:List Int) (i:Nat):Option Int:=if i=0 then none else vs[i - 1]?
end
section
set_option maxRecDepth 100000
noncomputable def f238.E (k:Nat):Env:=mkEnv tt [(121,S121),(120,S120)] [(148,Tryz.f148)] [(238,11,[.kill (rg [(0,2),(4,9),(11,39),(43,68)]),.tidy]),(238,4,[.kill (rg [(0,0),(4,26),(30,68)]),.tidy])] [] k
noncomputable def f238.code:Go.Code:=cd Tryz.f238
noncomputable def f238.l0 (k n:Nat) (p0:Int) (p1:List Int) (p2:Int) (p3:Int) (p4:Int) (p5:List (eL)):Option V :=
 atPath (f238.E k) n ⟨(.u::(.int .i64 p0)::(.ro qI p1)::(.ptr 786448 (0) (0))::.u::.u::.u::.u::.u::.u::.u::.u::.u::.u::.u::.u::.u::.u::.u::.u::.u::.u::.u::.u::.u::.u::.u::(.ro qI p1)::(.int .i64 p2)::(.int .i64 p3)::un 39),[],[(786448,.box [(.int .i64 p4),(.ro qL p5)])]⟩ 9 0 238 [.c 1,.c 1,.c 0,.c 1,.c 0] [] f238.code (finK tt Tryz.f238)
noncomputable def f238.l1 (k n:Nat) (p0:List Int) (p1:Int) (p2:Int) (p3:Int) (p4:List (eL)) (p5:List Int):Option V :=
 atPath (f238.E k) n ⟨(.u::.u::.u::(.ptr 786448 (0) (0))::.u::.u::.u::.u::.u::.u::(.slw 2621456)::.u::.u::.u::.u::.u::.u::.u::.u::.u::.u::.u::.u::.u::.u::.u::.u::.u::.u::.u::.u::.u::.u::.u::.u::.u::.u::.u::.u::.u::(.ro qI p0)::(.int .i64 p1)::(.int .i64 p2)::un 26),[],[(786448,.box [(.int .i64 p3),(.ro qL p4)]),(2621456,.row qI p5)]⟩ 9 0 238 [.c 1,.c 1,.c 1,.c 1,.c 0,.c 1,.c 0] [] f238.code (finK tt Tryz.f238)
theorem f238.l0_eq (k n:Nat) (p0:Int) (p1:List Int) (p2:Int) (p3:Int) (p4:Int) (p5:List (eL)):f238.l0 k (n+1) p0 p1 p2 p3 p4 p5 =
 bif decide (p3<p2) then (chk (decide ((0:Int)≤p3∧p3<(↑p1.length:Int))) (bif decide (rd qI p1 p3 ≥ (0:Int)) then (bif !decide (rd qI p1 p3<(↑p5.length:Int)) then (some (.tup [(.own qI ([])),(.int .i64 600)])) else (f238.l0 k n p0 p1 p2 (Go.IntKind.i64.wrap (p3+(1:Int))) p4 p5)) else (some (.tup [(.own qI ([])),(.int .i64 600)])))) else (f238.l1 k k p1 ((↑p1.length:Int)) 0 p4 p5 ([p0])):=by kernel_rfl
theorem f238.l1_eq (k n:Nat) (p0:List Int) (p1:Int) (p2:Int) (p3:Int) (p4:List (eL)) (p5:List Int):f238.l1 k (n+1) p0 p1 p2 p3 p4 p5 =
 bif decide (p2<p1) then (chk (decide ((0:Int)≤p2∧p2<(↑p0.length:Int))) (chk (decide ((0:Int)≤rd qI p0 p2∧rd qI p0 p2<(↑p4.length:Int))) (chk (decide ((0:Int)≤p2∧p2<(↑p5.length:Int))) (bif (rd qL p4 (rd qI p0 p2)).1 != rd qI p5 (↑p2.toNat:Int) then (some (.tup [(.own qI ([])),(.int .i64 601)])) else (chk (decide ((0:Int)≤rd qI p0 p2∧rd qI p0 p2<(↑p4.length:Int))) (chk (decide ((p5++[(rd qL p4 (rd qI p0 p2)).2.1]).length*8≤140737488355328)) (f238.l1 k n p0 p1 (Go.IntKind.i64.wrap (p2+(1:Int))) p3 p4 (p5++[(rd qL p4 (rd qI p0 p2)).2.1])))))))) else (some (.tup [(.own qI p5),(.int .i64 0)])):=by kernel_rfl
theorem f238.eq (k:Nat) (x0:Int×List (eL)) (x1:Int) (x2:List Int):evFn (f238.E k) 9 238 Tryz.f238 (encL [(.pair qI (.list qL)),qI,(.list qI)] (x0,x1,x2)) =
 bif !graphMay x0 then (some (.tup [(.own qI ([])),(.int .i64 600)])) else (bif !hasV x0.1 x1 then (some (.tup [(.own qI ([])),(.int .i64 600)])) else (bif decide ((↑x2.length:Int)>(64:Int)) then (some (.tup [(.own qI ([])),(.int .i64 600)])) else (f238.l0 k k x1 x2 ((↑x2.length:Int)) 0 x0.1 x0.2))):=by kernel_rfl
theorem f238.inl (k:Nat):InlOk Tryz.prog (f238.E k):=(inl_cons (by kernel_rfl) (by kernel_rfl) inl_nil)
theorem f238.sums (k:Nat):SumsOk Tryz.prog (f238.E k):=(sums_cons ok121 (sums_cons ok120 sums_nil))
end
section
abbrev lk (ls:List Lk) (i:Int):Lk:=rd tLk ls i
def walkL (gl:List Lk):Int→List Int→Option (List Int)
 |_,[]=>some []
 |v,l::ls=>bif (lk gl l).1==v then (walkL gl (lk gl l).2.1 ls).map fun vs=>(lk gl l).2.1::vs else none
def lkIn (gl:List Lk) (l:Int):Bool:=decide (0≤l∧l<(gl.length:Int))
def walkForm (g:Gr) (src:Int) (ls:List Int):Bool:=graphMay g&&(hasV g.1 src&&(decide (ls.length≤64)&&ls.all (lkIn g.2)))
def walkOf (g:Gr) (src:Int) (ls:List Int):List Int×Int :=
 bif walkForm g src ls then (match walkL g.2 src ls with
  |some vs=>(src::vs,0)
  |none=>([],601)) else ([],600)
theorem lkIn_false {gl:List Lk} {l:Int} (h:lkIn gl l=false):decide (l<0)=true∨decide (l<0)=false∧decide (l ≥ (gl.length:Int))=true:=by
 have h:=of_decide_eq_false h
 by_cases h1:l<0
 ·exact .inl (dT h1)
 ·exact .inr ⟨dF h1,dT (by omega)⟩
theorem walkL_len (gl:List Lk):∀ (ls:List Int) (v:Int) {vs:List Int},walkL gl v ls=some vs→vs.length=ls.length
 | [],v,vs,h=>by
  simp only [walkL,sI] at h
  subst h
  rfl
 |l::ls,v,vs,h=>by
  simp only [walkL] at h
  cases h1:(lk gl l).1==v with
  |false=>rw [h1,cF] at h;cases h
  |true =>
   rw [h1,cT] at h
   cases h2:walkL gl (lk gl l).2.1 ls with
   |none=>rw [h2] at h;cases h
   |some us =>
    rw [h2] at h
    simp only [Option.map_some,sI] at h
    subst h
    simp only [List.length_cons]
    rw [walkL_len gl ls _ h2]
def walkRes (at_:List Int) (r:Option (List Int)):Option V:=match r with
 |some vs=>some (resLE (at_++vs,0))
 |none=>some (resLE ([],601))
theorem rd_nat {t:Ty} {l:List t.den} {i:Nat} {x:t.den} (h:l[i]? = some x):rd t l (↑(i:Int).toNat:Int)=x:=by
 rw [Int.toNat_natCast]
 exact rd_some h
theorem f238.l1_is (k:Nat) (ls:List Int) (n0:Int) (gl:List Lk) (hl:ls.length≤64) (hall:ls.all (lkIn gl)=true):∀ (n i:Nat) (at_:List Int) (v:Int),i≤ls.length→ls.length<n+i→at_.length=i+1→at_[i]? = some v →
  f238.l1 k n ls (ls.length:Int) (i:Int) n0 gl at_=walkRes at_ (walkL gl v (ls.drop i))
 |0,i,_,_,h,h',_,_=>by omega
 |n+1,i,at_,v,h,h',ha,hv=>by
  by_cases hlt:i<ls.length
  ·have hx:=gE hlt
   have hin:decide ((0:Int)≤ls[i]∧ls[i]<(↑gl.length:Int))=true:=List.all_eq_true.1 hall _ (List.getElem_mem hlt)
   have hb:decide ((0:Int)≤(i:Int)∧(i:Int)<(↑at_.length:Int))=true:=dT (by omega)
   rw [f238.l1_eq,idx_lt' hx,cT,idx_in hx,kT,rd_some (t:=tI) hx,chk_eq hin,chk_eq hb,rd_nat (t:=tI) hv,List.drop_eq_getElem_cons hlt]
   simp only [walkL]
   cases hc:(lk gl ls[i]).1==v with
   |false =>
    rw [show ((rd tLk gl ls[i]).1 != v)=true by simp only [bne];rw [hc];rfl,cT,cF]
    rfl
   |true =>
    rw [show ((rd tLk gl ls[i]).1 != v)=false by simp only [bne];rw [hc];rfl,cF,cT,chk_eq hin,chk_eq (by rw [lA,List.length_singleton];simp;omega),wrap_succ (by omega)]
    rw [f238.l1_is k ls n0 gl hl hall n (i+1) (at_++[(lk gl ls[i]).2.1]) (lk gl ls[i]).2.1 (by omega) (by omega) (by rw [lA,List.length_singleton];omega) (by rw [List.getElem?_append_right (by omega),ha];simp)]
    cases walkL gl (lk gl ls[i]).2.1 (ls.drop (i+1)) with
    |none=>rfl
    |some vs=>simp [walkRes]
  ·obtain rfl:i=ls.length:=by omega
   rw [f238.l1_eq,end_lt,cF,List.drop_length]
   simp [walkL,walkRes,resLE]
theorem f238.l0_is (k:Nat) (src:Int) (ls:List Int) (n0:Int) (gl:List Lk) (hl:ls.length≤64) :
  f238.l0 (k+65) (k+65) src ls (ls.length:Int) 0 n0 gl=bif ls.any (fun l=>!lkIn gl l) then some (resLE ([],600)) else f238.l1 (k+65) (k+65) ls (ls.length:Int) 0 n0 gl [src] :=
 loop_any0 (fun n i=>f238.l0 (k+65) n src ls (ls.length:Int) (i:Nat) n0 gl) ls (fun l=>!lkIn gl l) (some (resLE ([],600))) _ (fun n i x hx=>by
  have:=idx_lt hx
  rw [f238.l0_eq,idx_lt' hx,idx_in hx,rd_some (t:=tI) hx,wrap_succ (by omega),cT,kT]
  cases hc:lkIn gl x with
  |true =>
   have hc:=oD hc
   rw [show decide (x ≥ 0)=true from dT hc.1,cT,show decide (x<(↑gl.length:Int))=true from dT hc.2,nT]
  |false =>
   rw [nF,cT]
   rcases lkIn_false hc with h1|⟨h1,h2⟩
   ·have h1:=oD h1
    rw [show decide (x ≥ 0)=false from dF (by omega),cF]
   ·have h1:=of_decide_eq_false h1
    have h2:=oD h2
    rw [show decide (x ≥ 0)=true from dT (by omega),cT,show decide (x<(↑gl.length:Int))=false from dF (by omega),nF,cT]) (fun n=>by rw [f238.l0_eq,end_lt,cF]) (n:=k+65) (by omega)
theorem any_lk (gl:List Lk) (ls:List Int):(ls.any fun l=>!lkIn gl l)=!ls.all (lkIn gl):=by
 induction ls with
 |nil=>rfl
 |cons l ls ih=>simp only [List.any_cons,List.all_cons];rw [ih];cases lkIn gl l <;> rfl
noncomputable def S238:Summ:=summ [tG,tI,tL] (List Int×Int) (fun (d:Gr×(Int×List Int))=>some (walkOf d.1 d.2.1 d.2.2)) resLE
theorem walkOf_walk {g:Gr} {src:Int} {ls:List Int} (h:walkForm g src ls=true):some (resLE (walkOf g src ls))=walkRes [src] (walkL g.2 src ls):=by
 unfold walkOf
 rw [h,cT]
 cases walkL g.2 src ls <;> rfl
theorem walkOf_form {g:Gr} {src:Int} {ls:List Int} (h:walkForm g src ls=false):walkOf g src ls=([],600):=by
 unfold walkOf
 rw [h,cF]
theorem f238.is (g:Gr) (src:Int) (ls:List Int):evFn (f238.E 65) 9 238 Tryz.f238 (encL [tG,tI,tL] (g,src,ls))=some (resLE (walkOf g src ls)):=by
 refine (f238.eq _ g src ls).trans ?_
 cases h1:graphMay g with
 |false=>rw [nF,cT,walkOf_form (by unfold walkForm;rw [h1];rfl)]
 |true =>
  rw [nT,cF]
  cases h2:hasV g.1 src with
  |false=>rw [nF,cT,walkOf_form (by unfold walkForm;rw [h1,h2];rfl)]
  |true =>
   rw [nT,cF]
   by_cases h3:ls.length≤64
   ·rw [show decide ((↑ls.length:Int)>(64:Int))=false from dF (by omega),cF,f238.l0_is 0 src ls g.1 g.2 h3,any_lk]
    cases h4:ls.all (lkIn g.2) with
    |false=>rw [nF,cT,walkOf_form (by unfold walkForm;rw [h1,h2,h4];simp)]
    |true =>
     rw [nT,cF,walkOf_walk (by unfold walkForm;rw [h1,h2,h4];simp [h3])]
     exact f238.l1_is _ ls g.1 g.2 h3 h4 65 0 [src] src (by omega) (by omega) rfl rfl
   ·rw [show decide ((↑ls.length:Int)>(64:Int))=true from dT (by omega),cT,walkOf_form (by unfold walkForm;rw [h1,h2,dF h3];simp)]
theorem ok238:SumOk Tryz.prog 238 S238 :=
 sumq f238.E (fn:=Tryz.f238) (code:=f238.code) f238.sums f238.inl fun (d:Gr×(Int×List Int)) x hx=>by
  obtain rfl:=oJ hx
  exact ⟨65,f238.is d.1 d.2.1 d.2.2⟩
end
section
open Go.Shelf Go.RowKit
def laysSort_ren:Go.Shelf.Ren:=⟨fun|189=>191|125=>227|257=>226|128=>258|129=>259|294=>249|295=>250|296=>251|297=>252|298=>253|299=>254|216=>255|300=>256|301=>257|328=>264|329=>265|330=>266|331=>267|332=>268|215=>269|343=>270|n=>n,fun|28=>28|3=>3|46=>164|0=>0|51=>287|53=>289|4=>4|183=>280|182=>279|131=>189|5=>5|9=>9|218=>295|222=>184|228=>300|229=>73|n=>n,fun|n=>n⟩
theorem laysSort:Go.Proofs.Lays.n189 Tryz.prog laysSort_ren :=
 {
  mixed:=by kernel_rfl,
  f125:=Tryz.func227.trans (congrArg some (by kernel_rfl)),
  f128:=Tryz.func258.trans (congrArg some (by kernel_rfl)),
  f129:=Tryz.func259.trans (congrArg some (by kernel_rfl)),
  f189:=Tryz.func191.trans (congrArg some (by kernel_rfl)),
  f215:=Tryz.func269.trans (congrArg some (by kernel_rfl)),
  f216:=Tryz.func255.trans (congrArg some (by kernel_rfl)),
  f257:=Tryz.func226.trans (congrArg some (by kernel_rfl)),
  f294:=Tryz.func249.trans (congrArg some (by kernel_rfl)),
  f295:=Tryz.func250.trans (congrArg some (by kernel_rfl)),
  f296:=Tryz.func251.trans (congrArg some (by kernel_rfl)),
  f297:=Tryz.func252.trans (congrArg some (by kernel_rfl)),
  f298:=Tryz.func253.trans (congrArg some (by kernel_rfl)),
  f299:=Tryz.func254.trans (congrArg some (by kernel_rfl)),
  f300:=Tryz.func256.trans (congrArg some (by kernel_rfl)),
  f301:=Tryz.func257.trans (congrArg some (by kernel_rfl)),
  f328:=Tryz.func264.trans (congrArg some (by kernel_rfl)),
  f329:=Tryz.func265.trans (congrArg some (by kernel_rfl)),
  f330:=Tryz.func266.trans (congrArg some (by kernel_rfl)),
  f331:=Tryz.func267.trans (congrArg some (by kernel_rfl)),
  f332:=Tryz.func268.trans (congrArg some (by kernel_rfl)),
  f343:=Tryz.func270.trans (congrArg some (by kernel_rfl)),
  t0:=Tryz.underlying0,
  a0:=Tryz.isAgg0,
  z0:=Tryz.sizeOf0,
  v0:=Tryz.zeroValue0,
  t3:=Tryz.underlying3,
  a3:=Tryz.isAgg3,
  z3:=Tryz.sizeOf3,
  v3:=Tryz.zeroValue3,
  t4:=Tryz.underlying4,
  a4:=Tryz.isAgg4,
  z4:=Tryz.sizeOf4,
  v4:=Tryz.zeroValue4,
  t5:=Tryz.underlying5,
  a5:=Tryz.isAgg5,
  z5:=Tryz.sizeOf5,
  v5:=Tryz.zeroValue5,
  t9:=Tryz.underlying9,
  a9:=Tryz.isAgg9,
  z9:=Tryz.sizeOf9,
  v9:=Tryz.zeroValue9,
  t28:=Tryz.underlying28,
  a28:=Tryz.isAgg28,
  z28:=Tryz.sizeOf28,
  v28:=Tryz.zeroValue28,
  t46:=Tryz.underlying164,
  a46:=Tryz.isAgg164,
  z46:=Tryz.sizeOf164,
  v46:=Tryz.zeroValue164,
  t51:=Tryz.underlying287,
  a51:=Tryz.isAgg287,
  z51:=Tryz.sizeOf287,
  v51:=Tryz.zeroValue287,
  t53:=Tryz.underlying289,
  a53:=Tryz.isAgg289,
  z53:=Tryz.sizeOf289,
  v53:=Tryz.zeroValue289,
  t131:=Tryz.underlying189,
  a131:=Tryz.isAgg189,
  z131:=Tryz.sizeOf189,
  v131:=Tryz.zeroValue189,
  t182:=Tryz.underlying279,
  a182:=Tryz.isAgg279,
  z182:=Tryz.sizeOf279,
  v182:=Tryz.zeroValue279,
  t183:=Tryz.underlying280,
  a183:=Tryz.isAgg280,
  z183:=Tryz.sizeOf280,
  v183:=Tryz.zeroValue280,
  t218:=Tryz.underlying295,
  a218:=Tryz.isAgg295,
  z218:=Tryz.sizeOf295,
  v218:=Tryz.zeroValue295,
  t222:=Tryz.underlying184,
  a222:=Tryz.isAgg184,
  z222:=Tryz.sizeOf184,
  v222:=Tryz.zeroValue184,
  t228:=Tryz.underlying300,
  a228:=Tryz.isAgg300,
  z228:=Tryz.sizeOf300,
  v228:=Tryz.zeroValue300,
  t229:=Tryz.underlying73,
  a229:=Tryz.isAgg73,
  z229:=Tryz.sizeOf73,
  v229:=Tryz.zeroValue73 }
def laysCompact_ren:Go.Shelf.Ren:=⟨fun|20=>192|n=>n,fun|22=>28|3=>3|4=>4|0=>0|n=>n,fun|n=>n⟩
theorem laysCompact:Go.Proofs.Lays2.n20 Tryz.prog laysCompact_ren :=
 {
  mixed:=by kernel_rfl,
  f20:=Tryz.func192.trans (congrArg some (by kernel_rfl)),
  t0:=Tryz.underlying0,
  a0:=Tryz.isAgg0,
  z0:=Tryz.sizeOf0,
  v0:=Tryz.zeroValue0,
  t3:=Tryz.underlying3,
  a3:=Tryz.isAgg3,
  z3:=Tryz.sizeOf3,
  v3:=Tryz.zeroValue3,
  t4:=Tryz.underlying4,
  a4:=Tryz.isAgg4,
  z4:=Tryz.sizeOf4,
  v4:=Tryz.zeroValue4,
  t22:=Tryz.underlying28,
  a22:=Tryz.isAgg28,
  z22:=Tryz.sizeOf28,
  v22:=Tryz.zeroValue28,
  i3:=by kernel_rfl }
def sortI (l:List Int):List Int:=l.mergeSort fun x y=>decide (x≤y)
theorem holds_row {w:World} {L:Loc} {l:List Int} {cs:Array Value} {el:TypeId} (hh:w.heap[L.g]? = some (.cells cs el (0,0)))
  (hel:∀ (i:Nat) (y:Int),l[i]? = some y→∃ zs,DRel (fun _=>False) w tI y zs∧∀ (j:Nat) z,zs[j]? = some z→cs[L.base+i*tI.size+j]? = some z):Go.Sort.Holds (Value.int .i64) w L.g L.base l.toArray:=by
 intro j hj
 have hj':j<l.length:=by simpa using hj
 obtain ⟨zs,h1,h2⟩:=hel j l[j] (gE hj')
 have h1:zs=[.int .i64 l[j]]:=h1
 subst h1
 have h3:=h2 0 _ rfl
 have h4:L.base+j*tI.size+0=L.base+j:=by show L.base+j*1+0=L.base+j;omega
 rw [h4] at h3
 refine ⟨?_,?_⟩
 ·unfold World.cell?
  simp only [hh]
  show cs[L.base+j]? = _
  rw [h3]
  congr 2
  rw [getElem!_pos l.toArray j (by simpa using hj')]
  simp
 ·unfold World.frozen?
  simp only [hh]
  simp
theorem put_row {w:World} {L:Loc} {l l':List Int} {cs:Array Value} {el:TypeId} {n:Nat} {os:Array Obj} (hh:w.heap[L.g]? = some (.cells cs el (0,0))) (hsz:cs.size=L.cells) (hb:L.base+l.length*tI.size≤L.cells) (hl:l'.length=l.length) :
  ∃ cs',Grows { w with heap:=w.heap.setIfInBounds L.g (.cells cs' el (0,0)) } (Go.Sort.grow (Go.Sort.putRow (Value.int .i64) (Go.Sort.ahead w n) L.g L.base l'.toArray) os)∧cs'.size=cs.size ∧
   ∀ (i:Nat) (y:Int),l'[i]? = some y→∃ zs,DRel (fun _=>False) w tI y zs∧∀ (j:Nat) z,zs[j]? = some z→cs'[L.base+i*tI.size+j]? = some z:=by
 have hlt:L.g<w.heap.size:=(Array.getElem?_eq_some_iff.1 hh).1
 have e:(Go.Sort.putRow (Value.int .i64) (Go.Sort.ahead w n) L.g L.base l'.toArray).heap=w.heap.setIfInBounds L.g (.cells (Go.Sort.putCells (Value.int .i64) L.base l'.toArray cs) el (0,0)):=by
  show w.heap.modify L.g _=_
  apply Array.ext_getElem?
  intro k
  rw [Array.getElem?_modify,Array.getElem?_setIfInBounds]
  by_cases hk:L.g=k
  ·subst hk
   rw [if_pos rfl,if_pos rfl,if_pos hlt]
   show w.heap[L.g]?.map _=_
   rw [hh]
   rfl
  ·simp [hk]
 refine ⟨Go.Sort.putCells (Value.int .i64) L.base l'.toArray cs,⟨rfl,rfl,rfl,?_,fun g hg=>?_⟩,by simp [Go.Sort.putCells],fun i y hy=>⟨[.int .i64 y],rfl,fun j z hz=>?_⟩⟩
 ·show (w.heap.setIfInBounds L.g _).size≤((Go.Sort.putRow (Value.int .i64) (Go.Sort.ahead w n) L.g L.base l'.toArray).heap++os).size
  rw [e,Array.size_append]
  omega
 ·show ((Go.Sort.putRow (Value.int .i64) (Go.Sort.ahead w n) L.g L.base l'.toArray).heap++os)[g]? = (w.heap.setIfInBounds L.g _)[g]?
  rw [e,Array.getElem?_append_left hg]
 ·cases j with
  |succ j=>simp at hz
  |zero =>
   simp only [List.getElem?_cons_zero,sI] at hz
   subst hz
   have hi:=(List.getElem?_eq_some_iff.1 hy).1
   have h1:tI.size=1:=rfl
   rw [h1] at hb ⊢
   have h2:L.base+i*1+0=L.base+i:=by omega
   rw [h2]
   have h3:L.base+i<cs.size:=by omega
   have h4:(Go.Sort.putCells (Value.int .i64) L.base l'.toArray cs)[L.base+i]? = some (if L.base≤L.base+i∧L.base+i<L.base+l'.toArray.size then Value.int .i64 l'.toArray[L.base+i - L.base]! else cs[L.base+i]):=by
    unfold Go.Sort.putCells
    rw [Array.getElem?_mapIdx,Array.getElem?_eq_getElem h3]
    rfl
   rw [h4,if_pos ⟨by omega,by simp;omega⟩]
   congr 2
   have h5:L.base+i - L.base=i:=by omega
   rw [h5,getElem!_pos l'.toArray i (by simpa using hi)]
   have:=(List.getElem?_eq_some_iff.1 hy).2
   simpa using this
def mSort:Mut:={ t:=tI,f:=fun (l:List Int)=>chk (decide (0<l.length∧l.length<4611686018427387904)) (some (sortI l)),n:=none }
noncomputable def S191:Summ:={ rt:=Unit,call:=fun _=>none,res:=fun _=>.tup [],alt:=some mSort }
theorem ok191:SumOk Tryz.prog 191 S191:=by
 refine ⟨⟨Tryz.f191,(Go.Func.body Tryz.f191).getD .skip,by kernel_rfl,by kernel_rfl,by kernel_rfl⟩,?_,fun m hm=>?_⟩
 ·intro B w vs xs x hB hv hx
  cases hx
 obtain rfl:=oJ hm
 refine ⟨rfl,fun l l' h=>?_,fun w L l l' cs el x hh hsz hb hel hs hf=>?_⟩
 ·obtain ⟨h1,_⟩:=chk_some h
  have:=(oD h1).1
  intro h2
  have h2:l=[]:=h2
  subst h2
  exact absurd this (Nat.lt_irrefl 0)
 ·obtain ⟨h1,h2⟩:=chk_some hf
  obtain ⟨h1,h3⟩:=oD h1
  obtain rfl:=oJ h2
  obtain ⟨A,c,rfl,hc,hcase⟩:=hs
  have h1:0<List.length (α:=Int) l:=h1
  have h3:List.length (α:=Int) l<4611686018427387904:=h3
  have hA:A=some ⟨L.g,L.base,none⟩:=by
   rcases hcase with h|⟨L',h4,h5,_⟩
   ·have hc:List.length (α:=Int) l≤c:=hc
    omega
   ·injection h4 with h4
    subst h4
    rw [h5]
    simp
  subst hA
  have hlt:L.g<w.heap.size:=(Array.getElem?_eq_some_iff.1 hh).1
  have key:=Any.slices_Sort_int laysSort L.g L.base c l w (holds_row (el:=el) hh hel) hlt h3
  refine Calls.mono (f:=191) key ?_
  rintro e w' ⟨rfl,n,os,rfl⟩
  have hlen:(sortI l).length=List.length (α:=Int) l:=List.length_mergeSort l
  exact ⟨rfl,hlen,put_row hh hsz hb hlen⟩
def mCompact:Mut:={ t:=tI,f:=fun (l:List Int)=>chk (decide (0<l.length∧l.length<4611686018427387904)) (some (Lib.compact l++List.replicate (l.length - (Lib.compact l).length) 0)),n:=some fun (l:List Int)=>(Lib.compact l).length }
noncomputable def S192:Summ:={ rt:=Unit,call:=fun _=>none,res:=fun _=>.tup [],alt:=some mCompact }
theorem compact_le (l:List Int):(Lib.compact l).length≤l.length:=by
 unfold Lib.compact Lib.compactUpTo
 rw [List.length_map]
 refine Nat.le_trans (List.length_filter_le _ _) ?_
 simp
theorem ok192:SumOk Tryz.prog 192 S192:=by
 refine ⟨⟨Tryz.f192,(Go.Func.body Tryz.f192).getD .skip,by kernel_rfl,by kernel_rfl,by kernel_rfl⟩,?_,fun m hm=>?_⟩
 ·intro B w vs xs x hB hv hx
  cases hx
 obtain rfl:=oJ hm
 refine ⟨rfl,fun l l' h=>?_,fun w L l l' cs el x hh hsz hb hel hs hf=>?_⟩
 ·obtain ⟨h1,_⟩:=chk_some h
  have:=(oD h1).1
  intro h2
  have h2:l=[]:=h2
  subst h2
  exact absurd this (Nat.lt_irrefl 0)
 ·obtain ⟨h1,h2⟩:=chk_some hf
  obtain ⟨h1,h3⟩:=oD h1
  obtain rfl:=oJ h2
  obtain ⟨A,c,rfl,hc,hcase⟩:=hs
  have h1:0<List.length (α:=Int) l:=h1
  have h3:List.length (α:=Int) l<4611686018427387904:=h3
  have hc:List.length (α:=Int) l≤c:=hc
  have hA:A=some ⟨L.g,L.base,none⟩:=by
   rcases hcase with h|⟨L',h4,h5,_⟩
   ·omega
   ·injection h4 with h4
    subst h4
    rw [h5]
    simp
  subst hA
  have key:=Any.slices_Compact_int laysCompact L.g L.base c l w (holds_row (el:=el) hh hel) (by omega) hc
  refine Calls.mono (f:=192) key ?_
  rintro e w' ⟨rfl,n,rfl⟩
  have hle:=compact_le l
  have hlen:(Lib.compact (α:=Int) l++List.replicate (List.length (α:=Int) l - (Lib.compact (α:=Int) l).length) 0).length=List.length (α:=Int) l:=by
   rw [lA,List.length_replicate]
   omega
  refine ⟨⟨hle,_,c,rfl,rfl⟩,hlen,?_⟩
  have:=put_row (n:=n) (os:=#[]) hh hsz hb hlen
  rwa [Go.Sort.grow_empty] at this
end
section
theorem sortI_perm (l:List Int):(sortI l).Perm l:=List.mergeSort_perm l _
theorem sortI_len (l:List Int):(sortI l).length=l.length:=List.length_mergeSort l
theorem sortI_sorted (l:List Int):(sortI l).Pairwise (·≤·):=by
 have:=List.pairwise_mergeSort (le:=fun (x y:Int)=>decide (x≤y)) (fun a b c h1 h2=>by simp at *;omega) (fun a b=>by simp;omega) l
 exact this.imp fun h=>by simpa using h
theorem keeps_all {z:List Int}:(Lib.compact z).length=z.length↔∀ i,i<z.length→Lib.keeps z.toArray i=true:=by
 unfold Lib.compact Lib.compactUpTo
 rw [List.length_map]
 constructor
 ·intro h
  have h2:((List.range z.length).filter (Lib.keeps z.toArray)).length=(List.range z.length).length:=by rw [List.length_range];exact h
  have:=List.length_filter_eq_length_iff.1 h2
  exact fun i hi=>this i (List.mem_range.2 hi)
 ·intro h
  have:((List.range z.length).filter (Lib.keeps z.toArray)).length=(List.range z.length).length:=List.length_filter_eq_length_iff.2 fun i hi=>h i (List.mem_range.1 hi)
  rw [this,List.length_range]
theorem compact_full (l:List Int):(Lib.compact (sortI l)).length=l.length↔l.Nodup:=by
 have hs:=sortI_sorted l
 have hp:=sortI_perm l
 rw [← hp.nodup_iff,← sortI_len l,keeps_all]
 generalize sortI l=z at hs
 rw [List.pairwise_iff_getElem] at hs
 have hk:∀ i,i<z.length→(Lib.keeps z.toArray i=true↔i=0∨z[i]! ≠ z[i - 1]!):=by
  intro i hi
  unfold Lib.keeps
  simp
 constructor
 ·intro h
  unfold List.Nodup
  rw [List.pairwise_iff_getElem]
  intro i j hi hj hij he
  have h1:=(hk (i+1) (by omega)).1 (h (i+1) (by omega))
  rcases h1 with h1|h1
  ·omega
  ·rw [getElem!_pos z (i+1) (by omega),show i+1 - 1=i by omega,getElem!_pos z i hi] at h1
   have h2:=hs i (i+1) hi (by omega) (by omega)
   have h3:z[i+1]'(by omega)≤z[j]:=by
    rcases Nat.lt_or_eq_of_le (show i+1≤j by omega) with h4|h4
    ·exact hs (i+1) j (by omega) hj h4
    ·subst h4;exact Int.le_refl _
   omega
 ·intro h i hi
  rw [hk i hi]
  by_cases h0:i=0
  ·exact .inl h0
  ·refine .inr ?_
   unfold List.Nodup at h
   rw [List.pairwise_iff_getElem] at h
   rw [getElem!_pos z i hi,getElem!_pos z (i - 1) (by omega)]
   exact fun he=>h (i - 1) i (by omega) hi (by omega) he.symm
end
section
set_option maxRecDepth 100000
noncomputable def f208.E (k:Nat):Env:=mkEnv tt [(238,S238),(191,S191),(192,S192)] [] [] [] k
noncomputable def f208.code:Go.Code:=cd Tryz.f208
theorem f208.eq (k:Nat) (x0:Int×List (eL)) (x1:Int) (x2:Int) (x3:List Int):evFn (f208.E k) 9 208 Tryz.f208 (encL [(.pair qI (.list qL)),qI,qI,(.list qI)] (x0,x1,x2,x3)) =
 bif (walkOf x0 x1 x3).2 != (0:Int) then (some (.bool false)) else (bif (↑x3.length:Int)==(0:Int) then (some (.bool false)) else (chk (decide ((0:Int)≤(↑x3.length:Int)∧(↑x3.length:Int)<(↑(walkOf x0 x1 x3).1.length:Int))) (bif rd tI (walkOf x0 x1 x3).1 (↑(↑x3.length:Int).toNat:Int) != x2 then (some (.bool false)) else ((chk (decide (0<(walkOf x0 x1 x3).1.length∧(walkOf x0 x1 x3).1.length<4611686018427387904)) (some (sortI (walkOf x0 x1 x3).1))).bind (fun y0=>(chk (decide (0<y0.length∧y0.length<4611686018427387904)) (some (Go.Lib.compact y0++List.replicate (y0.length - (Go.Lib.compact y0).length) (0:Int)))).bind (fun y1=>some (.bool ((↑(Go.Lib.compact y0).length:Int)==Go.IntKind.i64.wrap ((↑x3.length:Int)+(1:Int)))))))))):=by kernel_rfl
theorem f208.inl (k:Nat):InlOk Tryz.prog (f208.E k):=inl_nil
theorem f208.sums (k:Nat):SumsOk Tryz.prog (f208.E k):=(sums_cons ok238 (sums_cons ok191 (sums_cons ok192 sums_nil)))
end
section
set_option maxRecDepth 100000
set_option linter.unusedVariables false
end
section
theorem walkL_get (gl:List Lk):∀ (ls:List Int) (v:Int) {us:List Int} {i:Nat} {l:Int},walkL gl v ls=some us→ls[i]? = some l→us[i]? = some (lk gl l).2.1
 | [],v,us,i,l,_,hl=>by simp at hl
 |x::ls,v,us,i,l,h,hl=>by
  simp only [walkL] at h
  cases h1:(lk gl x).1==v with
  |false=>rw [h1,cF] at h;cases h
  |true =>
   rw [h1,cT] at h
   cases h2:walkL gl (lk gl x).2.1 ls with
   |none=>rw [h2] at h;cases h
   |some ws =>
    rw [h2] at h
    simp only [Option.map_some,sI] at h
    subst h
    cases i with
    |zero =>
     simp only [List.getElem?_cons_zero,sI] at hl
     subst hl
     rfl
    |succ i =>
     simp only [List.getElem?_cons_succ] at hl ⊢
     exact walkL_get gl ls _ h2 hl
theorem walkOf_ok {g:Gr} {src:Int} {ls:List Int} (h:(walkOf g src ls).2=0):∃ us,walkForm g src ls=true∧walkL g.2 src ls=some us∧walkOf g src ls=(src::us,0):=by
 cases hf:walkForm g src ls with
 |false=>rw [walkOf_form hf] at h;simp at h
 |true =>
  cases hw:walkL g.2 src ls with
  |none=>unfold walkOf at h;rw [hf,cT,hw] at h;simp at h
  |some us=>exact ⟨us,rfl,rfl,by unfold walkOf;rw [hf,cT,hw]⟩
theorem walkForm_all {g:Gr} {src:Int} {ls:List Int} (h:walkForm g src ls=true):graphMay g=true∧hasV g.1 src=true∧ls.length≤64∧ls.all (lkIn g.2)=true:=by
 simp only [walkForm,bA,dE] at h
 exact h
end
section
def pathB (g:Gr) (src dst:Int) (ls:List Int):Bool :=
 (walkOf g src ls).2==0&&(decide (0<ls.length)&&(rd tI (walkOf g src ls).1 (ls.length:Int)==dst&&decide (walkOf g src ls).1.Nodup))
theorem pathB_err {g:Gr} {src dst:Int} {ls:List Int} (h:((walkOf g src ls).2==0)=false):pathB g src dst ls=false:=by
 unfold pathB
 rw [h,fA]
noncomputable def S208:Summ:=summ [tG,tI,tI,tL] Bool (fun (d:Gr×(Int×(Int×List Int)))=>some (pathB d.1 d.2.1 d.2.2.1 d.2.2.2)) .bool
theorem ok208:SumOk Tryz.prog 208 S208 :=
 sumq f208.E (fn:=Tryz.f208) (code:=f208.code) f208.sums f208.inl fun (d:Gr×(Int×(Int×List Int))) x hx=>by
  obtain ⟨g,src,dst,ls⟩:=d
  obtain rfl:=oJ hx
  refine ⟨0,(f208.eq _ g src dst ls).trans ?_⟩
  show _=some (V.bool (pathB g src dst ls))
  cases hw:(walkOf g src ls).2==0 with
  |false=>rw [show ((walkOf g src ls).2 != 0)=true by simp only [bne];rw [hw];rfl,cT,pathB_err hw]
  |true =>
   obtain ⟨us,h1,h2,h3⟩:=walkOf_ok (g:=g) (src:=src) (ls:=ls) (by simpa using hw)
   obtain ⟨_,_,h4,h5⟩:=walkForm_all h1
   have hlen:=walkL_len _ _ _ h2
   rw [show ((walkOf g src ls).2 != 0)=false by simp only [bne];rw [hw];rfl,cF]
   unfold pathB
   rw [hw,tA]
   by_cases h0:ls.length=0
   ·rw [show ((↑ls.length:Int)==0)=true by simp [h0],cT,show decide (0<ls.length)=false from dF (by omega),fA]
   ·rw [show ((↑ls.length:Int)==0)=false from beq_eq_false_iff_ne.2 (by omega),cF,show decide (0<ls.length)=true from dT (by omega),tA,h3]
    simp only []
    rw [chk_eq (dT ⟨by omega,by simp only [List.length_cons];omega⟩),Int.toNat_natCast]
    cases hd:rd tI (src::us) (ls.length:Int)==dst with
    |false=>rw [show (rd tI (src::us) (ls.length:Int) != dst)=true by simp only [bne];rw [hd];rfl,cT,fA]
    |true =>
     have hl:(src::us).length=ls.length+1:=by rw [List.length_cons,hlen]
     rw [show (rd tI (src::us) (ls.length:Int) != dst)=false by simp only [bne];rw [hd];rfl,cF,tA,chk_eq (dT ⟨by omega,by omega⟩),bS,chk_eq (by rw [sortI_len];exact dT ⟨by omega,by omega⟩),bS,wrap_succ (by omega)]
     have key:(((Go.Lib.compact (sortI (src::us))).length:Int)==((ls.length+1:Nat):Int))=decide (src::us).Nodup:=by
      rw [Bool.eq_iff_iff,beq_iff_eq,dE,← compact_full,hl]
      omega
     rw [key]
theorem nodup_hit {xs:List Int} {i j:Nat} {v:Int} (hij:j<i) (hj:xs[j]? = some v) (hi:xs[i]? = some v):¬ xs.Nodup:=by
 intro h
 unfold List.Nodup at h
 rw [List.pairwise_iff_getElem] at h
 obtain ⟨h1,h2⟩:=List.getElem?_eq_some_iff.1 hj
 obtain ⟨h3,h4⟩:=List.getElem?_eq_some_iff.1 hi
 exact h j i h1 h3 hij (h2.trans h4.symm)
end
section
abbrev Pt:=Int×List Int
@[reducible] def tP:Ty:=.pair (.int .i64) (.list (.int .i64))
def ratesOf (ps:List Pt):List Int:=ps.map fun p=>p.1
def ptOk (gl:List Lk) (p:Pt):Bool:=rateB p.1&&(decide (p.2.length≤64)&&p.2.all (lkIn gl))
def bForm (g:Gr) (ps:List Pt):Bool:=graphMay g&&(decide (ps.length≤16)&&ps.all (ptOk g.2))
def addK (out:List Int) (k r:Int):Option (List Int):=bif decide (r>maxRate - rd tI out k) then none else some (out.set k.toNat (rd tI out k+r))
def addLs (r:Int):List Int→List Int→Option (List Int)
 | [],out=>some out
 |k::ls,out=>(addK out k r).bind (addLs r ls)
def addPs:List Pt→List Int→Option (List Int)
 | [],out=>some out
 |p::ps,out=>(addLs p.1 p.2 out).bind (addPs ps)
def loadsOf (g:Gr) (ps:List Pt):List Int×Int :=
 bif bForm g ps then (match addPs ps (List.replicate g.2.length 0) with
  |some out=>(out,0)
  |none=>([],701)) else ([],700)
def mayB (g:Gr) (src dst want:Int) (ps:List Pt):Bool :=
 graphMay g&&(decide (0<want)&&(decide (ps.length≤16)&&(ps.all (fun p=>decide (0<p.1)&&pathB g src dst p.2)&&(sumUp 0 (ratesOf ps)==some want))))
theorem some_beq (a b:Int):((some a==some b):Bool)=(a==b):=rfl
theorem addK_len {out o:List Int} {k r:Int} (h:addK out k r=some o):o.length=out.length:=by
 unfold addK at h
 cases hc:decide (r>maxRate - rd tI out k) with
 |true=>rw [hc,cT] at h;cases h
 |false =>
  rw [hc,cF] at h
  obtain rfl:=oJ h
  rw [List.length_set]
theorem addLs_len (r:Int):∀ (ls:List Int) {out o:List Int},addLs r ls out=some o→o.length=out.length
 | [],out,o,h=>by
  obtain rfl:=oJ h
  rfl
 |k::ls,out,o,h=>by
  simp only [addLs] at h
  cases hc:addK out k r with
  |none=>rw [hc] at h;cases h
  |some o1 =>
   rw [hc,bS] at h
   rw [addLs_len r ls h,addK_len hc]
theorem addPs_len:∀ (ps:List Pt) {out o:List Int},addPs ps out=some o→o.length=out.length
 | [],out,o,h=>by
  obtain rfl:=oJ h
  rfl
 |p::ps,out,o,h=>by
  simp only [addPs] at h
  cases hc:addLs p.1 p.2 out with
  |none=>rw [hc] at h;cases h
  |some o1 =>
   rw [hc,bS] at h
   rw [addPs_len ps h,addLs_len _ _ hc]
theorem addPs_append:∀ (a b:List Pt) (out:List Int),addPs (a++b) out=(addPs a out).bind (addPs b)
 | [],b,out=>rfl
 |p::a,b,out=>by
  simp only [List.cons_append,addPs]
  cases addLs p.1 p.2 out with
  |none=>rfl
  |some o =>
   rw [bS,bS]
   exact addPs_append a b o
theorem rd_in {l:List Int} {k:Int} (h:0≤k∧k<(l.length:Int)):l[k.toNat]? = some (rd tI l k):=by
 have:k.toNat<l.length:=by omega
 unfold rd
 rw [List.getD_eq_getElem?_getD,gE this]
 rfl
theorem ptOk_in {gl:List Lk} {p:Pt} (h:ptOk gl p=true):rateB p.1=true∧p.2.length≤64∧p.2.all (lkIn gl)=true:=by
 simp only [ptOk,bA,dE] at h
 exact h
theorem addK_in {o o':List Int} {k r:Int} (hr:0≤r) (ho:∀ x∈o,0≤x∧x≤maxRate) (hk:0≤k∧k<(o.length:Int)) (h:addK o k r=some o'):∀ x∈o',0≤x∧x≤maxRate:=by
 have hx:=ho _ (List.mem_of_getElem? (rd_in hk))
 unfold addK at h
 cases hc:decide (r>maxRate - rd tI o k) with
 |true=>rw [hc,cT] at h;cases h
 |false =>
  rw [hc,cF] at h
  obtain rfl:=oJ h
  have hc:=of_decide_eq_false hc
  intro x hxm
  rcases List.mem_or_eq_of_mem_set hxm with h1|h1
  ·exact ho x h1
  ·subst h1;omega
theorem addLs_in (r:Int) (hr:0≤r):∀ (ls:List Int) {o o':List Int},(∀ x∈o,0≤x∧x≤maxRate)→(∀ k∈ls,0≤k∧k<(o.length:Int))→addLs r ls o=some o'→∀ x∈o',0≤x∧x≤maxRate
 | [],o,o',ho,hk,h=>by
  obtain rfl:=oJ h
  exact ho
 |k::ls,o,o',ho,hk,h=>by
  simp only [addLs] at h
  cases hc:addK o k r with
  |none=>rw [hc] at h;cases h
  |some o1 =>
   rw [hc,bS] at h
   have hl1:=addK_len hc
   exact addLs_in r hr ls (addK_in hr ho (hk k (by simp)) hc) (fun j hj=>by rw [hl1];exact hk j (by simp [hj])) h
theorem addPs_in (gl:List Lk):∀ (ps:List Pt) {o o':List Int},ps.all (ptOk gl)=true→o.length=gl.length→(∀ x∈o,0≤x∧x≤maxRate)→addPs ps o=some o'→∀ x∈o',0≤x∧x≤maxRate
 | [],o,o',hp,hl,ho,h=>by
  obtain rfl:=oJ h
  exact ho
 |p::ps,o,o',hp,hl,ho,h=>by
  simp only [List.all_cons,bA] at hp
  simp only [addPs] at h
  cases hc:addLs p.1 p.2 o with
  |none=>rw [hc] at h;cases h
  |some o1 =>
   rw [hc,bS] at h
   obtain ⟨h1,_,h2⟩:=ptOk_in hp.1
   have h1:=oD h1
   have hin:∀ k∈p.2,0≤k∧k<(o.length:Int):=fun k hk=>by
    have:=oD (List.all_eq_true.1 h2 k hk)
    omega
   have hl1:=addLs_len _ _ hc
   exact addPs_in gl ps hp.2 (by omega) (addLs_in p.1 h1.1 p.2 ho hin hc) h
end
section
set_option maxRecDepth 100000
noncomputable def f223.E (k:Nat):Env:=mkEnv tt [(122,S122),(120,S120)] [(148,Tryz.f148)] [(223,9,[.kill (rg [(0,1),(3,16),(20,33),(37,45)]),.tidy]),(223,4,[.kill (rg [(0,1),(3,16),(20,45)]),.tidy])] [] k
noncomputable def f223.code:Go.Code:=cd Tryz.f223
noncomputable def f223.l0 (k n:Nat) (p0:List (eP)) (p1:Int) (p2:Int) (p3:Int) (p4:List (eL)):Option V :=
 atPath (f223.E k) n ⟨(.u::.u::(.ptr 524304 (0) (0))::.u::.u::.u::.u::.u::.u::.u::.u::.u::.u::.u::.u::.u::.u::(.ro qP p0)::(.int .i64 p1)::(.int .i64 p2)::un 26),[],[(524304,.box [(.int .i64 p3),(.ro qL p4)])]⟩ 9 0 223 [.c 1,.c 1,.c 0,.c 1,.c 0] [] f223.code (finK tt Tryz.f223)
noncomputable def f223.l1 (k n m0:Nat) (p0:List (eP)) (p1:Int) (p2:Int) (p3:List Int) (p4:Int) (p5:Int) (p6:Int) (p7:List (eL)):Option V :=
 atPath (f223.E k) n ⟨(.u::.u::(.ptr 524304 (0) (0))::.u::.u::.u::.u::.u::.u::.u::.u::.u::.u::.u::.u::.u::.u::(.ro qP p0)::(.int .i64 p1)::(.int .i64 p2)::.u::.u::.u::.u::.u::.u::.u::.u::.u::.u::.u::.u::.u::.u::(.ro qI p3)::(.int .i64 p4)::(.int .i64 p5)::un 9),[],[(524304,.box [(.int .i64 p6),(.ro qL p7)])]⟩ 9 0 223 [.c 1,.c 1,.c 0,.c 1,.c 0,.c 0,.c 1,.c 1,.c 0,.c 0,.c 1,.c 1,.c 1,.c 0] [m0] f223.code (finK tt Tryz.f223)
theorem f223.l0_eq (k n:Nat) (p0:List (eP)) (p1:Int) (p2:Int) (p3:Int) (p4:List (eL)):f223.l0 k (n+1) p0 p1 p2 p3 p4 =
 bif decide (p2<p1) then (chk (decide ((0:Int)≤p2∧p2<(↑p0.length:Int))) (bif !rateB (rd qP p0 p2).1 then (some (.bool false)) else (bif decide ((↑(List.length (rd qP p0 p2).2):Int)>(64:Int)) then (some (.bool false)) else (f223.l1 k k n p0 p1 p2 ((rd qP p0 p2).2) ((↑(List.length (rd qP p0 p2).2):Int)) 0 p3 p4)))) else (some (.bool true)):=by kernel_rfl
theorem f223.l1_eq (k n m0:Nat) (p0:List (eP)) (p1:Int) (p2:Int) (p3:List Int) (p4:Int) (p5:Int) (p6:Int) (p7:List (eL)):f223.l1 k (n+1) m0 p0 p1 p2 p3 p4 p5 p6 p7 =
 bif decide (p5<p4) then (chk (decide ((0:Int)≤p5∧p5<(↑p3.length:Int))) (bif decide (rd qI p3 p5 ≥ (0:Int)) then (bif !decide (rd qI p3 p5<(↑p7.length:Int)) then (some (.bool false)) else (f223.l1 k n m0 p0 p1 p2 p3 p4 (Go.IntKind.i64.wrap (p5+(1:Int))) p6 p7)) else (some (.bool false)))) else (f223.l0 k m0 p0 p1 (Go.IntKind.i64.wrap (p2+(1:Int))) p6 p7):=by kernel_rfl
theorem f223.eq (k:Nat) (x0:Int×List (eL)) (x1:List (eP)):evFn (f223.E k) 9 223 Tryz.f223 (encL [(.pair qI (.list qL)),(.list qP)] (x0,x1)) =
 bif !graphMay x0 then (some (.bool false)) else (bif decide ((↑x1.length:Int)>(16:Int)) then (some (.bool false)) else (f223.l0 k k x1 ((↑x1.length:Int)) 0 x0.1 x0.2)):=by kernel_rfl
theorem f223.inl (k:Nat):InlOk Tryz.prog (f223.E k):=(inl_cons (by kernel_rfl) (by kernel_rfl) inl_nil)
theorem f223.sums (k:Nat):SumsOk Tryz.prog (f223.E k):=(sums_cons ok122 (sums_cons ok120 sums_nil))
noncomputable def f209.E (k:Nat):Env:=mkEnv tt [] [] [(209,3,[.kill (rg [(0,2),(4,5),(9,18)]),.tidy])] [] k
noncomputable def f209.code:Go.Code:=cd Tryz.f209
noncomputable def f209.l0 (k n:Nat) (p0:List (eP)) (p1:Int) (p2:Int) (p3:List Int):Option V :=
 atPath (f209.E k) n ⟨(.u::.u::.u::(.slw 786448)::.u::.u::(.ro qP p0)::(.int .i64 p1)::(.int .i64 p2)::un 10),[],[(786448,.row qI p3)]⟩ 9 0 209 [.c 1,.c 1,.c 0,.c 1,.c 0] [] f209.code (finK tt Tryz.f209)
theorem f209.l0_eq (k n:Nat) (p0:List (eP)) (p1:Int) (p2:Int) (p3:List Int):f209.l0 k (n+1) p0 p1 p2 p3 =
 bif decide (p2<p1) then (chk (decide ((0:Int)≤p2∧p2<(↑p0.length:Int))) (chk (decide ((p3++[(rd qP p0 p2).1]).length*8≤140737488355328)) (f209.l0 k n p0 p1 (Go.IntKind.i64.wrap (p2+(1:Int))) (p3++[(rd qP p0 p2).1])))) else (some (.own qI p3)):=by kernel_rfl
theorem f209.eq (k:Nat) (x0:List (eP)):evFn (f209.E k) 9 209 Tryz.f209 (encL [(.list qP)] x0) =
 f209.l0 k k x0 ((↑x0.length:Int)) 0 ([]):=by kernel_rfl
theorem f209.inl (k:Nat):InlOk Tryz.prog (f209.E k):=inl_nil
theorem f209.sums (k:Nat):SumsOk Tryz.prog (f209.E k):=sums_nil
end
section
noncomputable def S209:Summ:=summ [.list tP] (List Int) (fun (ps:List Pt)=>chk (decide (ps.length≤16777216)) (some (ratesOf ps))) (.own tI)
theorem f209.l0_is (k:Nat) (ps:List Pt) (hl:ps.length≤16777216):∀ (n i:Nat),i≤ps.length→ps.length<n+i→f209.l0 k n ps (ps.length:Int) (i:Int) ((ratesOf ps).take i)=some (.own tI (ratesOf ps))
 |0,i,h,h'=>by omega
 |n+1,i,h,h'=>by
  have hrl:(ratesOf ps).length=ps.length:=by simp [ratesOf]
  by_cases hlt:i<ps.length
  ·have hx:=gE hlt
   have e:(ratesOf ps).take i++[ps[i].1]=(ratesOf ps).take (i+1):=by
    rw [List.take_succ_eq_append_getElem (by omega)]
    simp [ratesOf]
   rw [f209.l0_eq,idx_lt' hx,cT,idx_in hx,kT,rd_some (t:=tP) hx,wrap_succ (by omega),e,chk_eq (by rw [List.length_take];exact dT (by omega))]
   exact f209.l0_is k ps hl n (i+1) (by omega) (by omega)
  ·obtain rfl:i=ps.length:=by omega
   rw [f209.l0_eq,end_lt,cF,List.take_of_length_le (by omega)]
theorem ok209:SumOk Tryz.prog 209 S209 :=
 sumq f209.E (fn:=Tryz.f209) (code:=f209.code) f209.sums f209.inl fun (ps:List Pt) x hx=>by
  obtain ⟨hb,hx⟩:=chk_some hx
  obtain rfl:=oJ hx
  exact ⟨ps.length+1,(f209.eq _ ps).trans (f209.l0_is _ ps (by simpa using hb) (ps.length+1) 0 (by omega) (by omega))⟩
noncomputable def S223:Summ:=summ [tG,.list tP] Bool (fun (d:Gr×List Pt)=>some (bForm d.1 d.2)) .bool
theorem drop_all {α:Type} {l:List α} {i:Nat} (p:α→Bool) (h:i<l.length):(l.drop i).all p=(p l[i]&&(l.drop (i+1)).all p):=by
 rw [List.drop_eq_getElem_cons h,List.all_cons]
theorem f223.l1_is (k m0:Nat) (ps:List Pt) (i:Nat) (ls:List Int) (g0:Int) (gl:List Lk) (hi:i<ps.length) (hps:ps.length≤16) (hl:ls.length≤64):∀ (n j:Nat),j≤ls.length→ls.length<n+j →
  f223.l1 k n m0 ps (ps.length:Int) (i:Int) ls (ls.length:Int) (j:Int) g0 gl=bif (ls.drop j).all (lkIn gl) then f223.l0 k m0 ps (ps.length:Int) ((i+1:Nat):Int) g0 gl else some (.bool false)
 |0,j,h,h'=>by omega
 |n+1,j,h,h'=>by
  by_cases hlt:j<ls.length
  ·have hx:=gE hlt
   rw [f223.l1_eq,idx_lt' hx,cT,idx_in hx,kT,rd_some (t:=tI) hx,drop_all _ hlt,wrap_succ (i:=j) (by omega)]
   cases hc:lkIn gl ls[j] with
   |true =>
    have hc:=oD hc
    rw [show decide (ls[j] ≥ 0)=true from dT hc.1,cT,show decide (ls[j]<(↑gl.length:Int))=true from dT hc.2,nT,cF,tA]
    exact f223.l1_is k m0 ps i ls g0 gl hi hps hl n (j+1) (by omega) (by omega)
   |false =>
    rw [fA,cF]
    rcases lkIn_false hc with h1|⟨h1,h2⟩
    ·have h1:=oD h1
     rw [show decide (ls[j] ≥ 0)=false from dF (by omega),cF]
    ·have h1:=of_decide_eq_false h1
     have h2:=oD h2
     rw [show decide (ls[j] ≥ 0)=true from dT (by omega),cT,show decide (ls[j]<(↑gl.length:Int))=false from dF (by omega),nF,cT]
  ·obtain rfl:j=ls.length:=by omega
   rw [f223.l1_eq,end_lt,cF,List.drop_length,wrap_succ (by omega)]
   rfl
theorem f223.l0_is (k:Nat) (ps:List Pt) (g0:Int) (gl:List Lk) (hps:ps.length≤16) (hk:64<k):∀ (n i:Nat),i≤ps.length→ps.length<n+i →
  f223.l0 k n ps (ps.length:Int) (i:Int) g0 gl=some (.bool ((ps.drop i).all (ptOk gl)))
 |0,i,h,h'=>by omega
 |n+1,i,h,h'=>by
  by_cases hlt:i<ps.length
  ·have hx:=gE hlt
   rw [f223.l0_eq,idx_lt' hx,cT,idx_in hx,kT,rd_some (t:=tP) hx,drop_all _ hlt]
   unfold ptOk
   cases hr:rateB ps[i].1 with
   |false=>rw [nF,cT,fA,fA]
   |true =>
    rw [nT,cF,tA]
    by_cases h64:ps[i].2.length≤64
    ·rw [show decide ((↑(List.length ps[i].2):Int)>(64:Int))=false from dF (by omega),cF,dT h64,tA]
     refine (f223.l1_is k n ps i ps[i].2 g0 gl hlt hps h64 k 0 (by omega) (by omega)).trans ?_
     rw [List.drop_zero]
     cases ps[i].2.all (lkIn gl) with
     |false=>rw [cF,fA]
     |true =>
      rw [cT,tA]
      exact f223.l0_is k ps g0 gl hps hk n (i+1) (by omega) (by omega)
    ·rw [show decide ((↑(List.length ps[i].2):Int)>(64:Int))=true from dT (by omega),cT,dF h64,fA,fA]
  ·obtain rfl:i=ps.length:=by omega
   rw [f223.l0_eq,end_lt,cF,List.drop_length]
   rfl
theorem ok223:SumOk Tryz.prog 223 S223 :=
 sumq f223.E (fn:=Tryz.f223) (code:=f223.code) f223.sums f223.inl fun (d:Gr×List Pt) x hx=>by
  obtain ⟨g,ps⟩:=d
  obtain rfl:=oJ hx
  refine ⟨65,(f223.eq _ g ps).trans ?_⟩
  show _=some (V.bool (bForm g ps))
  unfold bForm
  cases graphMay g with
  |false=>rw [nF,cT,fA]
  |true =>
   rw [nT,cF,tA]
   by_cases h:ps.length≤16
   ·rw [show decide ((↑ps.length:Int)>(16:Int))=false from dF (by omega),cF,dT h,tA]
    exact f223.l0_is 65 ps g.1 g.2 h (by omega) 65 0 (by omega) (by omega)
   ·rw [show decide ((↑ps.length:Int)>(16:Int))=true from dT (by omega),cT,dF h,fA]
def smallP (ps:List Pt):Bool:=decide (ps.length<4611686018427387904)&&ps.all fun p=>decide (p.2.length<4611686018427387904)
def linksN (ps:List Pt):Nat:=(ps.map fun p=>p.2.length).sum
theorem linksN_le {ps:List Pt} {p:Pt} (h:p∈ps):p.2.length≤linksN ps:=by
 induction ps with
 |nil=>cases h
 |cons q ps ih =>
  simp only [linksN,List.map_cons,List.sum_cons]
  rcases List.mem_cons.1 h with rfl|h
  ·omega
  ·have:=ih h
   unfold linksN at this
   omega
end
section
set_option maxRecDepth 100000
noncomputable def f119.E (k:Nat):Env:=mkEnv tt [(43,S43)] [] [(119,3,[.kill (rg [(1,2),(5,26)]),.tidy]),(119,5,[.drop 63])] [] k
noncomputable def f119.code:Go.Code:=cd Tryz.f119
noncomputable def f119.l0 (k n:Nat) (p0:List (eP)) (p1:Int) (p2:List (eP)):Option V :=
 atPath (f119.E k) n ⟨((.ro qP p0)::.u::.u::(.slw 786448)::(.int .i64 p1)::un 22),[],[(786448,.row qP p2)]⟩ 9 0 119 [.c 1,.c 1,.c 0,.c 1,.c 0] [] f119.code (finK tt Tryz.f119)
theorem f119.l0_eq (k n:Nat) (p0:List (eP)) (p1:Int) (p2:List (eP)):f119.l0 k (n+1) p0 p1 p2 =
 bif decide (p1<(↑p0.length:Int)) then (chk (decide ((0:Int)≤p1∧p1<(↑p0.length:Int))) (chk (decide ((0:Int)≤p1∧p1<(↑p0.length:Int))) (both ((chk (decide (List.length (rd qP p0 p1).2*8≤140737488355328)) (some ((rd qP p0 p1).2))).bind (fun y0=>chk (decide ((p2++[((rd qP p0 p1).1,y0)]).length*32≤140737488355328)) (f119.l0 k n p0 (Go.IntKind.i64.wrap (p1+(1:Int))) (p2++[((rd qP p0 p1).1,y0)])))) (both ((chk (decide (List.length (rd qP p0 p1).2*8≤140737488355328)) (some ((rd qP p0 p1).2))).bind (fun y0=>chk (decide ((p2++[((rd qP p0 p1).1,y0)]).length*32≤140737488355328)) (f119.l0 k n p0 (Go.IntKind.i64.wrap (p1+(1:Int))) (p2++[((rd qP p0 p1).1,y0)])))) ((chk (decide (List.length (rd qP p0 p1).2*8≤140737488355328)) (some ((rd qP p0 p1).2))).bind (fun y0=>chk (decide ((p2++[((rd qP p0 p1).1,y0)]).length*32≤140737488355328)) (f119.l0 k n p0 (Go.IntKind.i64.wrap (p1+(1:Int))) (p2++[((rd qP p0 p1).1,y0)])))))))) else (some (.own qP p2)):=by kernel_rfl
theorem f119.eq (k:Nat) (x0:List (eP)):evFn (f119.E k) 9 119 Tryz.f119 (encL [(.list qP)] x0) =
 f119.l0 k k x0 0 ([]):=by kernel_rfl
theorem f119.inl (k:Nat):InlOk Tryz.prog (f119.E k):=inl_nil
theorem f119.sums (k:Nat):SumsOk Tryz.prog (f119.E k):=(sums_cons ok43 sums_nil)
end
section
def cpP (ps:List Pt):Option (List Pt):=chk (decide (ps.length*32≤140737488355328)) (chk (ps.all fun p=>decide (p.2.length*8≤140737488355328)) (some ps))
noncomputable def S119:Summ:=summ [.list tP] (List Pt) cpP (.own tP)
theorem f119.l0_is (k:Nat) (ps:List Pt) (hl:ps.length*32≤140737488355328) (hall:(ps.all fun p=>decide (p.2.length*8≤140737488355328))=true):∀ (n i:Nat),i≤ps.length→ps.length<n+i→f119.l0 k n ps (i:Int) (ps.take i)=some (.own tP ps)
 |0,i,h,h'=>by omega
 |n+1,i,h,h'=>by
  by_cases hlt:i<ps.length
  ·have hx:=gE hlt
   have hb:decide (List.length ps[i].2*8≤140737488355328)=true:=List.all_eq_true.1 hall _ (List.getElem_mem hlt)
   have e:ps.take i++[(ps[i].1,ps[i].2)]=ps.take (i+1):=by
    rw [List.take_succ_eq_append_getElem hlt]
   have hc:decide ((ps.take (i+1)).length*32≤140737488355328)=true:=by
    rw [List.length_take]
    exact dT (by omega)
   rw [f119.l0_eq,idx_lt' hx,cT,wrap_succ (by omega),rd_some (t:=tP) hx]
   simp only [idx_in hx,kT,chk_eq hb,bS,both_self,e,chk_eq hc]
   exact f119.l0_is k ps hl hall n (i+1) (by omega) (by omega)
  ·obtain rfl:i=ps.length:=by omega
   rw [f119.l0_eq,end_lt,cF,List.take_length]
theorem ok119:SumOk Tryz.prog 119 S119 :=
 sumq f119.E (fn:=Tryz.f119) (code:=f119.code) f119.sums f119.inl fun (ps:List Pt) x hx=>by
  obtain ⟨h1,hx⟩:=chk_some hx
  obtain ⟨h2,hx⟩:=chk_some hx
  obtain rfl:=oJ hx
  exact ⟨ps.length+1,(f119.eq _ ps).trans (f119.l0_is _ ps (by simpa using h1) h2 (ps.length+1) 0 (by omega) (by omega))⟩
end
section
set_option maxRecDepth 100000
noncomputable def f189.E (k:Nat):Env:=mkEnv tt [(223,S223),(174,S174)] [(224,Tryz.f224),(225,Tryz.f225),(248,Tryz.f248)] [(189,16,[.kill (rg [(0,5),(7,10),(12,47),(50,60)]),.tidy]),(189,8,[.kill (rg [(0,5),(7,7),(9,20),(24,27),(31,60)]),.tidy]),(189,5,[.kill (rg [(0,5),(7,20),(24,60)]),.tidy]),(189,10,[.drop 63])] [] k
noncomputable def f189.code:Go.Code:=cd Tryz.f189
noncomputable def f189.l0 (k n:Nat) (p0:List (eP)) (p1:Int) (p2:Int) (p3:List Int):Option V :=
 atPath (f189.E k) n ⟨(.u::.u::.u::.u::.u::.u::(.slw 1572880)::.u::.u::.u::.u::.u::.u::.u::.u::.u::.u::.u::.u::.u::.u::(.ro qP p0)::(.int .i64 p1)::(.int .i64 p2)::un 37),[],[(1572880,.row (.one qI) p3)]⟩ 9 0 189 [.c 1,.c 1,.c 1,.c 0,.c 1,.c 0] [] f189.code (finK tt Tryz.f189)
noncomputable def f189.l1 (k n m0:Nat) (p0:List (eP)) (p1:Int) (p2:Int) (p3:List Int) (p4:Int) (p5:Int) (p6:List Int) (p7:Int):Option V :=
 atPath (f189.E k) n ⟨(.u::.u::.u::.u::.u::.u::(.slw 1572880)::.u::(.ptr 2097168 (0) (0))::.u::.u::.u::.u::.u::.u::.u::.u::.u::.u::.u::.u::(.ro qP p0)::(.int .i64 p1)::(.int .i64 p2)::.u::.u::.u::.u::(.ro qI p3)::(.int .i64 p4)::(.int .i64 p5)::un 30),[],[(1572880,.row (.one qI) p6),(2097168,.box [(.int .i64 p7),(.ro qI p3)])]⟩ 9 0 189 [.c 1,.c 1,.c 1,.c 0,.c 1,.c 0,.c 0,.c 1,.c 1,.c 0,.c 0,.c 1,.c 1,.c 0] [m0] f189.code (finK tt Tryz.f189)
noncomputable def f189.l2 (k n:Nat) (p0:Int) (p1:Int) (p2:List Int) (p3:List Int):Option V :=
 atPath (f189.E k) n ⟨(.u::.u::.u::.u::.u::.u::(.slw 1572880)::.u::.u::.u::.u::(.slw 2883600)::.u::.u::.u::.u::.u::.u::.u::.u::.u::.u::.u::.u::.u::.u::.u::.u::.u::.u::.u::.u::.u::.u::.u::.u::.u::.u::.u::.u::.u::.u::.u::.u::.u::.u::.u::.u::(.int .i64 p0)::(.int .i64 p1)::un 11),[],[(1572880,.row (.one qI) p2),(2883600,.row qI p3)]⟩ 9 0 189 [.c 1,.c 1,.c 1,.c 1,.c 1,.c 0,.c 1,.c 0] [] f189.code (finK tt Tryz.f189)
theorem f189.l0_eq (k n:Nat) (p0:List (eP)) (p1:Int) (p2:Int) (p3:List Int):f189.l0 k (n+1) p0 p1 p2 p3 =
 bif decide (p2<p1) then (chk (decide ((0:Int)≤p2∧p2<(↑p0.length:Int))) (f189.l1 k k n p0 p1 p2 ((rd qP p0 p2).2) ((↑(List.length (rd qP p0 p2).2):Int)) 0 p3 ((rd qP p0 p2).1))) else (chk (decide ((0:Int)≤(↑p3.length:Int)∧(↑p3.length:Int)≤(↑p3.length:Int))) (chk (decide (0<8∧(↑p3.length:Int)*(↑(8:Nat):Int)≤(140737488355328:Int))) (f189.l2 k k ((↑p3.length:Int)) 0 p3 (List.replicate (↑p3.length:Int).toNat (dflt qI))))):=by kernel_rfl
theorem f189.l1_eq (k n m0:Nat) (p0:List (eP)) (p1:Int) (p2:Int) (p3:List Int) (p4:Int) (p5:Int) (p6:List Int) (p7:Int):f189.l1 k (n+1) m0 p0 p1 p2 p3 p4 p5 p6 p7 =
 bif decide (p5<p4) then (chk (decide ((0:Int)≤p5∧p5<(↑p3.length:Int))) (chk (decide ((0:Int)≤rd qI p3 p5∧rd qI p3 p5<(↑p6.length:Int))) (bif !(sumTold [p7]).2 then (some (.tup [(.own qI ([])),(.int .i64 701)])) else (bif (sumTold [rd qI.one p6 (↑(Int.toNat (rd qI p3 p5)):Int),(sumTold [p7]).1]).2 then (bif !(sumTold [rd qI.one p6 (↑(Int.toNat (rd qI p3 p5)):Int),(sumTold [p7]).1]).2 then (some (.tup [(.own qI ([])),(.int .i64 701)])) else (f189.l1 k n m0 p0 p1 p2 p3 p4 (Go.IntKind.i64.wrap (p5+(1:Int))) (p6.set (Int.toNat (rd qI p3 p5)) (sumTold [rd qI.one p6 (↑(Int.toNat (rd qI p3 p5)):Int),(sumTold [p7]).1]).1) p7)) else (bif !(sumTold [rd qI.one p6 (↑(Int.toNat (rd qI p3 p5)):Int),(sumTold [p7]).1]).2 then (some (.tup [(.own qI ([])),(.int .i64 701)])) else (f189.l1 k n m0 p0 p1 p2 p3 p4 (Go.IntKind.i64.wrap (p5+(1:Int))) p6 p7)))))) else (f189.l0 k m0 p0 p1 (Go.IntKind.i64.wrap (p2+(1:Int))) p6):=by kernel_rfl
theorem f189.l2_eq (k n:Nat) (p0:Int) (p1:Int) (p2:List Int) (p3:List Int):f189.l2 k (n+1) p0 p1 p2 p3 =
 bif decide (p1<p0) then (chk (decide ((0:Int)≤p1∧p1<(↑p2.length:Int))) (chk (decide ((0:Int)≤p1∧p1<(↑p3.length:Int))) (f189.l2 k n p0 (Go.IntKind.i64.wrap (p1+(1:Int))) p2 (p3.set p1.toNat (rd qI.one p2 (↑p1.toNat:Int)))))) else (some (.tup [(.own qI p3),(.int .i64 0)])):=by kernel_rfl
theorem f189.eq (k:Nat) (x0:Int×List (eL)) (x1:List (eP)):evFn (f189.E k) 9 189 Tryz.f189 (encL [(.pair qI (.list qL)),(.list qP)] (x0,x1)) =
 bif !bForm x0 x1 then (some (.tup [(.own qI ([])),(.int .i64 700)])) else (chk (decide ((0:Int)≤(↑(x0.2.length):Int)∧(↑(x0.2.length):Int)≤(↑(x0.2.length):Int))) (chk (decide (0<8∧(↑(x0.2.length):Int)*(↑(8:Nat):Int)≤(140737488355328:Int))) (f189.l0 k k x1 ((↑x1.length:Int)) 0 (List.replicate (↑(x0.2.length):Int).toNat (dflt qI.one))))):=by kernel_rfl
theorem f189.inl (k:Nat):InlOk Tryz.prog (f189.E k):=(inl_cons (by kernel_rfl) (by kernel_rfl) (inl_cons (by kernel_rfl) (by kernel_rfl) (inl_cons (by kernel_rfl) (by kernel_rfl) inl_nil)))
theorem f189.sums (k:Nat):SumsOk Tryz.prog (f189.E k):=(sums_cons ok223 (sums_cons ok174 sums_nil))
noncomputable def f169.E (k:Nat):Env:=mkEnv tt [(120,S120),(174,S174),(208,S208),(209,S209)] [] [(169,4,[.kill (rg [(0,0),(6,26),(30,57)]),.tidy])] [] k
noncomputable def f169.code:Go.Code:=cd Tryz.f169
noncomputable def f169.l0 (k n:Nat) (p0:Int) (p1:Int) (p2:Int) (p3:List (eP)) (p4:Int) (p5:Int) (p6:Int) (p7:List (eL)):Option V :=
 atPath (f169.E k) n ⟨(.u::(.int .i64 p0)::(.int .i64 p1)::(.int .i64 p2)::(.ro qP p3)::(.ptr 1310736 (0) (0))::.u::.u::.u::.u::.u::.u::.u::.u::.u::.u::.u::.u::.u::.u::.u::.u::.u::.u::.u::.u::.u::(.ro qP p3)::(.int .i64 p4)::(.int .i64 p5)::un 28),[],[(1310736,.box [(.int .i64 p6),(.ro qL p7)])]⟩ 9 0 169 [.c 1,.c 1,.c 0,.c 1,.c 0] [] f169.code (finK tt Tryz.f169)
theorem f169.l0_eq (k n:Nat) (p0:Int) (p1:Int) (p2:Int) (p3:List (eP)) (p4:Int) (p5:Int) (p6:Int) (p7:List (eL)):f169.l0 k (n+1) p0 p1 p2 p3 p4 p5 p6 p7 =
 bif decide (p5<p4) then (chk (decide ((0:Int)≤p5∧p5<(↑p3.length:Int))) (bif decide ((rd qP p3 p5).1≤(0:Int)) then (some (.bool false)) else (bif !pathB (p6,p7) p0 p1 (rd qP p3 p5).2 then (some (.bool false)) else (f169.l0 k n p0 p1 p2 p3 p4 (Go.IntKind.i64.wrap (p5+(1:Int))) p6 p7)))) else ((chk (decide (p3.length≤16777216)) (some (ratesOf p3))).bind (fun y0=>(chk (decide (y0.length<4611686018427387904)) (some (sumTold y0))).bind (fun y1=>bif y1.2 then (some (.bool (y1.1==p2))) else (some (.bool false))))):=by kernel_rfl
theorem f169.eq (k:Nat) (x0:Int×List (eL)) (x1:Int) (x2:Int) (x3:Int) (x4:List (eP)):evFn (f169.E k) 9 169 Tryz.f169 (encL [(.pair qI (.list qL)),qI,qI,qI,(.list qP)] (x0,x1,x2,x3,x4)) =
 bif !graphMay x0 then (some (.bool false)) else (bif decide (x3≤(0:Int)) then (some (.bool false)) else (bif decide ((↑x4.length:Int)>(16:Int)) then (some (.bool false)) else (f169.l0 k k x1 x2 x3 x4 ((↑x4.length:Int)) 0 x0.1 x0.2))):=by kernel_rfl
theorem f169.inl (k:Nat):InlOk Tryz.prog (f169.E k):=inl_nil
theorem f169.sums (k:Nat):SumsOk Tryz.prog (f169.E k):=(sums_cons ok120 (sums_cons ok174 (sums_cons ok208 (sums_cons ok209 sums_nil))))
end
section
set_option maxRecDepth 100000
noncomputable def f236.E (k:Nat):Env:=mkEnv tt [(121,S121),(120,S120)] [] [(236,2,[.kill (rg [(0,0),(3,6),(10,33)]),.tidy])] [] k
noncomputable def f236.code:Go.Code:=cd Tryz.f236
noncomputable def f236.l0 (k n:Nat) (p0:List Int) (p1:Int) (p2:Int) (p3:Int) (p4:List (eL)):Option V :=
 atPath (f236.E k) n ⟨(.u::(.ro qI p0)::(.ptr 524304 (0) (0))::.u::.u::.u::.u::(.ro qI p0)::(.int .i64 p1)::(.int .i64 p2)::un 24),[],[(524304,.box [(.int .i64 p3),(.ro qL p4)])]⟩ 9 0 236 [.c 1,.c 0,.c 1,.c 0] [] f236.code (finK tt Tryz.f236)
theorem f236.l0_eq (k n:Nat) (p0:List Int) (p1:Int) (p2:Int) (p3:Int) (p4:List (eL)):f236.l0 k (n+1) p0 p1 p2 p3 p4 =
 bif decide (p2<p1) then (chk (decide ((0:Int)≤p2∧p2<(↑p0.length:Int))) (bif !hasV p3 (rd qI p0 p2) then (some (.bool false)) else (bif decide (p2>(0:Int)) then (chk (decide ((0:Int)≤Go.IntKind.i64.wrap (p2 - (1:Int))∧Go.IntKind.i64.wrap (p2 - (1:Int))<(↑p0.length:Int))) (bif decide (rd qI p0 p2≤rd qI p0 (Go.IntKind.i64.wrap (p2 - (1:Int)))) then (some (.bool false)) else (f236.l0 k n p0 p1 (Go.IntKind.i64.wrap (p2+(1:Int))) p3 p4))) else (f236.l0 k n p0 p1 (Go.IntKind.i64.wrap (p2+(1:Int))) p3 p4)))) else (some (.bool (graphMay (p3,p4)))):=by kernel_rfl
theorem f236.eq (k:Nat) (x0:Int×List (eL)) (x1:List Int):evFn (f236.E k) 9 236 Tryz.f236 (encL [(.pair qI (.list qL)),(.list qI)] (x0,x1)) =
 f236.l0 k k x1 ((↑x1.length:Int)) 0 x0.1 x0.2:=by kernel_rfl
theorem f236.inl (k:Nat):InlOk Tryz.prog (f236.E k):=inl_nil
theorem f236.sums (k:Nat):SumsOk Tryz.prog (f236.E k):=(sums_cons ok121 (sums_cons ok120 sums_nil))
noncomputable def f125.E (k:Nat):Env:=mkEnv tt [(120,S120)] [] [(125,4,[.kill (rg [(0,1),(3,17),(21,37)]),.tidy])] [] k
noncomputable def f125.code:Go.Code:=cd Tryz.f125
noncomputable def f125.l0 (k n:Nat) (p0:List Int) (p1:Int) (p2:Int) (p3:Int) (p4:List (eL)):Option V :=
 atPath (f125.E k) n ⟨(.u::.u::(.ptr 524304 (0) (0))::.u::.u::.u::.u::.u::.u::.u::.u::.u::.u::.u::.u::.u::.u::.u::(.ro qI p0)::(.int .i64 p1)::(.int .i64 p2)::un 17),[],[(524304,.box [(.int .i64 p3),(.ro qL p4)])]⟩ 9 0 125 [.c 1,.c 1,.c 0,.c 1,.c 0] [] f125.code (finK tt Tryz.f125)
theorem f125.l0_eq (k n:Nat) (p0:List Int) (p1:Int) (p2:Int) (p3:Int) (p4:List (eL)):f125.l0 k (n+1) p0 p1 p2 p3 p4 =
 bif decide (p2<p1) then (chk (decide ((0:Int)≤p2∧p2<(↑p0.length:Int))) (bif decide (rd qI p0 p2<(0:Int)) then (some (.bool false)) else (chk (decide ((0:Int)≤p2∧p2<(↑p4.length:Int))) (bif decide (rd qI p0 p2>(rd qL p4 p2).2.2) then (some (.bool false)) else (f125.l0 k n p0 p1 (Go.IntKind.i64.wrap (p2+(1:Int))) p3 p4))))) else (some (.bool true)):=by kernel_rfl
theorem f125.eq (k:Nat) (x0:Int×List (eL)) (x1:List Int):evFn (f125.E k) 9 125 Tryz.f125 (encL [(.pair qI (.list qL)),(.list qI)] (x0,x1)) =
 bif !graphMay x0 then (some (.bool false)) else (bif (↑x1.length:Int) != (↑(x0.2.length):Int) then (some (.bool false)) else (f125.l0 k k x1 ((↑x1.length:Int)) 0 x0.1 x0.2)):=by kernel_rfl
theorem f125.inl (k:Nat):InlOk Tryz.prog (f125.E k):=inl_nil
theorem f125.sums (k:Nat):SumsOk Tryz.prog (f125.E k):=(sums_cons ok120 sums_nil)
end
section
noncomputable def S236:Summ:=summ [tG,tL] Bool (fun (d:Gr×List Int)=>chk (decide (d.2.length<4611686018427387904)) (some (risingB d.1.1 none d.2&&graphMay d.1))) .bool
theorem f236.l0_is (k:Nat) (g:Gr) (vs:List Int) (hl:vs.length<4611686018427387904):∀ (n i:Nat),i≤vs.length→vs.length<n+i →
  f236.l0 k n vs vs.length i g.1 g.2=some (.bool (risingB g.1 (ahead vs i) (vs.drop i)&&graphMay g))
 |0,i,h,h'=>by omega
 |n+1,i,h,h'=>by
  by_cases hlt:i<vs.length
  ·have hx:=gE hlt
   have ih:=f236.l0_is k g vs hl n (i+1) (by omega) (by omega)
   have ha:ahead vs (i+1)=some vs[i]:=by unfold ahead;rw [if_neg (by omega)];exact hx
   rw [ha] at ih
   rw [f236.l0_eq,idx_lt' hx,idx_in hx,rd_some (t:=tI) hx,wrap_succ (by omega),cT,kT,List.drop_eq_getElem_cons hlt,ih]
   simp only [risingB]
   cases hasV g.1 vs[i] with
   |false=>rw [nF,cT,fA,fA]
   |true =>
    rw [nT,cF,tA]
    by_cases h0:i=0
    ·subst h0
     rw [show decide (((0:Nat):Int)>0)=false by simp,cF]
     rfl
    ·have hy:vs[i - 1]? = some vs[i - 1]:=gE (by omega)
     have ha2:ahead vs i=some vs[i - 1]:=by unfold ahead;rw [if_neg h0];exact hy
     rw [ha2,show decide ((i:Int)>0)=true by simp;omega,cT,wrap64 (n:=(i:Int) - 1) (by omega),show ((i:Int) - 1)=((i - 1:Nat):Int) by omega,idx_in hy,kT,rd_some (t:=tI) hy]
     simp only
     by_cases hc:vs[i]≤vs[i - 1]
     ·rw [dT hc,cT,dF (by omega),fA,fA]
     ·rw [dF hc,cF,dT (by omega),tA]
  ·obtain rfl:i=vs.length:=by omega
   rw [f236.l0_eq,end_lt,cF,List.drop_length]
   rfl
theorem ok236:SumOk Tryz.prog 236 S236 :=
 sumq f236.E (fn:=Tryz.f236) (code:=f236.code) f236.sums f236.inl fun (d:Gr×List Int) x hx=>by
  obtain ⟨hb,hx⟩:=chk_some hx
  obtain rfl:=oJ hx
  have hb:d.2.length<4611686018427387904:=by simpa using hb
  exact ⟨d.2.length+1,(f236.eq _ d.1 d.2).trans (f236.l0_is _ d.1 d.2 hb _ 0 (by omega) (by omega))⟩
def capBad (x:Int×Lk):Bool:=!decide (0≤x.1∧x.1≤x.2.2.2)
theorem withinL_zip:∀ {cs:List Int} {ls:List Lk},cs.length=ls.length→withinL cs ls=!((cs.zip ls).any capBad)
 | [],[],_=>rfl
 |c::cs,l::ls,h=>by
  simp only [List.length_cons,Nat.add_right_cancel_iff] at h
  simp only [withinL,List.zip_cons_cons,List.any_cons,withinL_zip h,capBad]
  cases decide (0≤c∧c≤l.2.2) <;> rfl
 | [],_::_,h=>by simp at h
 |_::_,[],h=>by simp at h
theorem cap_tree (c:Int) (l:Lk) (x:Option V):(bif decide (c<0) then some (V.bool false) else (bif decide (c>l.2.2) then (some (.bool false)) else x))=bif capBad (c,l) then some (.bool false) else x:=by
 unfold capBad
 by_cases h1:c<0
 ·rw [dT h1,cT,dF (fun h=>absurd h.1 (by omega)),nF,cT]
 ·by_cases h2:c>l.2.2
  ·rw [dF h1,cF,dT h2,cT,dF (fun h=>by have:=h.2;simp only at this;omega),nF,cT]
  ·rw [dF h1,cF,dF h2,cF,dT (show 0≤c∧c≤l.2.2 from ⟨by omega,by omega⟩),nT,cF]
noncomputable def S125:Summ:=summ [tG,tL] Bool (fun (d:Gr×List Int)=>some (capsMay d.1 d.2)) .bool
theorem links_few {g:Gr} (h:graphMay g=true):g.2.length≤16:=by
 simp only [graphMay,shapeB,bA] at h
 exact oD h.1.2.1
theorem caps_tree (g:Gr) (cs:List Int) (x:Option V) (h:graphMay g=true→cs.length=g.2.length→x=bif (cs.zip g.2).any capBad then some (.bool false) else some (.bool true)) :
  (bif !graphMay g then some (V.bool false) else (bif (cs.length:Int) != (g.2.length:Int) then (some (.bool false)) else x))=some (.bool (capsMay g cs)):=by
 unfold capsMay
 cases hg:graphMay g with
 |false=>rw [nF,cT,fA]
 |true =>
  rw [nT,cF,tA]
  by_cases hl:cs.length=g.2.length
  ·rw [show ((cs.length:Int) != (g.2.length:Int))=false by simp [hl],cF,h hg hl,withinL_zip hl]
   cases (cs.zip g.2).any capBad <;> rfl
  ·rw [show ((cs.length:Int) != (g.2.length:Int))=true by simp;omega,cT]
   cases hw:withinL cs g.2 with
   |false=>rfl
   |true=>exact absurd (withinL_len hw) hl
theorem ok125:SumOk Tryz.prog 125 S125 :=
 sumq f125.E (fn:=Tryz.f125) (code:=f125.code) f125.sums f125.inl fun (d:Gr×List Int) x hx=>by
  obtain ⟨g,cs⟩:=d
  obtain rfl:=oJ hx
  refine ⟨17,(f125.eq _ g cs).trans (caps_tree g cs _ fun hg hl=>?_)⟩
  have h16:=links_few hg
  have hz:(cs.zip g.2).length=cs.length:=by simp [hl]
  exact loop_any0 (fun n i=>f125.l0 17 n cs cs.length (i:Nat) g.1 g.2) (cs.zip g.2) capBad (some (.bool false)) (some (.bool true)) (fun n i x hx=>by
   obtain ⟨ha,hb⟩:=zip_get hx
   have:=idx_lt ha
   rw [f125.l0_eq,idx_lt' ha,idx_in ha,idx_in hb,rd_some (t:=tI) ha,rd_some (t:=tLk) hb,wrap_succ (by omega),cT,kT,kT,cap_tree]) (fun n=>by rw [hz,f125.l0_eq,end_lt,cF]) (by omega)
end
section
set_option maxRecDepth 100000
noncomputable def f235.E (k:Nat):Env:=mkEnv tt [(236,S236),(237,S237)] [] [(235,5,[.kill (rg [(0,0),(2,5),(7,13),(17,37)]),.tidy])] [] k
noncomputable def f235.code:Go.Code:=cd Tryz.f235
noncomputable def f235.l0 (k n:Nat) (p0:List Int) (p1:List (eL)) (p2:Int) (p3:Int) (p4:List Int):Option V :=
 atPath (f235.E k) n ⟨(.u::(.ro qI p0)::.u::.u::.u::.u::(.slw 1572880)::.u::.u::.u::.u::.u::.u::.u::(.ro qL p1)::(.int .i64 p2)::(.int .i64 p3)::un 21),[],[(1572880,.row qI p4)]⟩ 9 0 235 [.c 1,.c 1,.c 1,.c 0,.c 1,.c 0] [] f235.code (finK tt Tryz.f235)
theorem f235.l0_eq (k n:Nat) (p0:List Int) (p1:List (eL)) (p2:Int) (p3:Int) (p4:List Int):f235.l0 k (n+1) p0 p1 p2 p3 p4 =
 bif decide (p3<p2) then (chk (decide ((0:Int)≤p3∧p3<(↑p1.length:Int))) ((chk (decide (p0.length<4611686018427387904)) (some (amongB p0 (rd qL p1 p3).1))).bind (fun y0=>bif y0 then ((chk (decide (p0.length<4611686018427387904)) (some (amongB p0 (rd qL p1 p3).2.1))).bind (fun y1=>bif !y1 then (chk (decide ((p4++[p3]).length*8≤140737488355328)) (f235.l0 k n p0 p1 p2 (Go.IntKind.i64.wrap (p3+(1:Int))) (p4++[p3]))) else (f235.l0 k n p0 p1 p2 (Go.IntKind.i64.wrap (p3+(1:Int))) p4))) else (f235.l0 k n p0 p1 p2 (Go.IntKind.i64.wrap (p3+(1:Int))) p4)))) else (some (.tup [(.own qI p4),(.int .i64 0)])):=by kernel_rfl
theorem f235.eq (k:Nat) (x0:Int×List (eL)) (x1:List Int):evFn (f235.E k) 9 235 Tryz.f235 (encL [(.pair qI (.list qL)),(.list qI)] (x0,x1)) =
 (chk (decide (x1.length<4611686018427387904)) (some (risingB x0.1 none x1&&graphMay x0))).bind (fun y0=>bif !y0 then (some (.tup [(.own qI ([])),(.int .i64 800)])) else (f235.l0 k k x1 x0.2 ((↑(x0.2.length):Int)) 0 ([]))):=by kernel_rfl
theorem f235.inl (k:Nat):InlOk Tryz.prog (f235.E k):=inl_nil
theorem f235.sums (k:Nat):SumsOk Tryz.prog (f235.E k):=(sums_cons ok236 (sums_cons ok237 sums_nil))
noncomputable def f207.E (k:Nat):Env:=mkEnv tt [(236,S236),(237,S237),(121,S121)] [] [] [] k
noncomputable def f207.code:Go.Code:=cd Tryz.f207
theorem f207.eq (k:Nat) (x0:Int×List (eL)) (x1:Int) (x2:Int) (x3:List Int):evFn (f207.E k) 9 207 Tryz.f207 (encL [(.pair qI (.list qL)),qI,qI,(.list qI)] (x0,x1,x2,x3)) =
 (chk (decide (x3.length<4611686018427387904)) (some (risingB x0.1 none x3&&graphMay x0))).bind (fun y0=>bif y0 then (bif hasV x0.1 x2 then ((chk (decide (x3.length<4611686018427387904)) (some (amongB x3 x1))).bind (fun y1=>bif y1 then ((chk (decide (x3.length<4611686018427387904)) (some (amongB x3 x2))).bind (fun y2=>some (.bool (!y2)))) else (some (.bool false)))) else (some (.bool false))) else (some (.bool false))):=by kernel_rfl
theorem f207.inl (k:Nat):InlOk Tryz.prog (f207.E k):=inl_nil
theorem f207.sums (k:Nat):SumsOk Tryz.prog (f207.E k):=(sums_cons ok236 (sums_cons ok237 (sums_cons ok121 sums_nil)))
end
section
theorem among_mem {vs:List Int} {v:Int}:amongB vs v=true↔v∈vs:=by
 unfold amongB
 rw [List.any_eq_true]
 constructor
 ·rintro ⟨x,hx,h⟩
  have:x=v:=by simpa using h
  rwa [← this]
 ·exact fun h=>⟨v,h,by simp⟩
noncomputable def S235:Summ:=summ [tG,tL] (List Int×Int) (fun (d:Gr×List Int)=>chk (decide (d.2.length<4611686018427387904)) (some (leaving d.1 d.2))) resLE
theorem f235.l0_is (k:Nat) (ls:List Lk) (vs:List Int) (hl:ls.length≤16) (hv:vs.length<4611686018427387904):∀ (n i:Nat) (acc:List Int),i≤ls.length→ls.length<n+i→acc.length≤i →
  f235.l0 k n vs ls ls.length i acc=some (resLE (acc++leaveFrom vs i (ls.drop i),0))
 |0,i,_,h,h',_=>by omega
 |n+1,i,acc,h,h',ha=>by
  by_cases hlt:i<ls.length
  ·have hx:=gE hlt
   rw [f235.l0_eq,idx_lt' hx,idx_in hx,rd_some (t:=tLk) hx,wrap_succ (by omega),cT,kT,chk_eq (by simpa using hv),bS,chk_eq (by simpa using hv),bS,List.drop_eq_getElem_cons hlt,f235.l0_is k ls vs hl hv n (i+1) acc (by omega) (by omega) (by omega),f235.l0_is k ls vs hl hv n (i+1) (acc++[(i:Int)]) (by omega) (by omega) (by rw [lA,List.length_singleton];omega)]
   rw [chk_eq (b:=decide ((acc++[(i:Int)]).length*8≤140737488355328)) (by rw [lA,List.length_singleton];simp;omega)]
   simp only [leaveFrom,leavesB]
   cases amongB vs ls[i].1 <;> cases amongB vs ls[i].2.1 <;> simp
  ·obtain rfl:i=ls.length:=by omega
   rw [f235.l0_eq,end_lt,cF,List.drop_length]
   simp [leaveFrom]
theorem ok235:SumOk Tryz.prog 235 S235 :=
 sumq f235.E (fn:=Tryz.f235) (code:=f235.code) f235.sums f235.inl fun (d:Gr×List Int) x hx=>by
  obtain ⟨g,vs⟩:=d
  obtain ⟨hb,hx⟩:=chk_some hx
  obtain rfl:=oJ hx
  have hb':vs.length<4611686018427387904:=by simpa using hb
  refine ⟨17,(f235.eq _ g vs).trans ?_⟩
  rw [chk_eq hb,bS]
  unfold leaving
  cases hr:risingB g.1 none vs&&graphMay g with
  |false=>rw [nF,cT,cF]
  |true =>
   have hg:graphMay g=true:=by simp only [bA] at hr;exact hr.2
   rw [nT,cF,cT]
   exact f235.l0_is 17 g.2 vs (links_few hg) hb' 17 0 [] (by omega) (by have:=links_few hg;omega) (by simp)
noncomputable def S207:Summ:=summ [tG,tI,tI,tL] Bool (fun (d:Gr×(Int×(Int×List Int)))=>chk (decide (d.2.2.2.length<4611686018427387904)) (some (cutMay d.1 d.2.1 d.2.2.1 d.2.2.2))) .bool
theorem ok207:SumOk Tryz.prog 207 S207 :=
 sumq f207.E (fn:=Tryz.f207) (code:=f207.code) f207.sums f207.inl fun (d:Gr×(Int×(Int×List Int))) x hx=>by
  obtain ⟨g,src,dst,vs⟩:=d
  obtain ⟨hb,hx⟩:=chk_some hx
  obtain rfl:=oJ hx
  refine ⟨0,(f207.eq _ g src dst vs).trans ?_⟩
  rw [chk_eq hb,bS,chk_eq hb,bS,chk_eq hb,bS]
  unfold cutMay
  cases risingB g.1 none vs&&graphMay g <;> cases hasV g.1 dst <;> cases amongB vs src <;> rfl
end
section
set_option maxRecDepth 100000
noncomputable def f206.E (k:Nat):Env:=mkEnv tt [(235,S235),(125,S125),(174,S174)] [(224,Tryz.f224),(225,Tryz.f225),(248,Tryz.f248)] [(206,6,[.kill (rg [(0,0),(2,9),(11,26),(30,40)]),.tidy])] [] k
noncomputable def f206.code:Go.Code:=cd Tryz.f206
noncomputable def f206.l0 (k n:Nat) (p0:List Int) (p1:Int) (p2:Int) (p3:Int) (p4:List Int):Option V :=
 atPath (f206.E k) n ⟨(.u::(.ro qI p0)::.u::.u::.u::.u::.u::.u::.u::.u::(.ptr 2621456 (0) (0))::.u::.u::.u::.u::.u::.u::.u::.u::.u::.u::.u::.u::.u::.u::.u::.u::(.slw 7077904)::(.int .i64 p1)::(.int .i64 p2)::un 11),[],[(2621456,.box [(.int .i64 p3)]),(7077904,.row qI p4)]⟩ 9 0 206 [.c 1,.c 1,.c 1,.c 1,.c 0,.c 1,.c 0] [] f206.code (finK tt Tryz.f206)
theorem f206.l0_eq (k n:Nat) (p0:List Int) (p1:Int) (p2:Int) (p3:Int) (p4:List Int):f206.l0 k (n+1) p0 p1 p2 p3 p4 =
 bif decide (p2<p1) then (chk (decide ((0:Int)≤p2∧p2<(↑p4.length:Int))) (chk (decide ((0:Int)≤rd qI p4 (↑p2.toNat:Int)∧rd qI p4 (↑p2.toNat:Int)<(↑p0.length:Int))) (bif !(sumTold [rd qI p0 (rd qI p4 (↑p2.toNat:Int))]).2 then (f206.l0 k n p0 p1 (Go.IntKind.i64.wrap (p2+(1:Int))) p3 p4) else (bif (sumTold [p3,(sumTold [rd qI p0 (rd qI p4 (↑p2.toNat:Int))]).1]).2 then (f206.l0 k n p0 p1 (Go.IntKind.i64.wrap (p2+(1:Int))) ((sumTold [p3,(sumTold [rd qI p0 (rd qI p4 (↑p2.toNat:Int))]).1]).1) p4) else (f206.l0 k n p0 p1 (Go.IntKind.i64.wrap (p2+(1:Int))) p3 p4))))) else (some (.tup [(.int .i64 p3),(.int .i64 0)])):=by kernel_rfl
theorem f206.eq (k:Nat) (x0:Int×List (eL)) (x1:List Int) (x2:List Int):evFn (f206.E k) 9 206 Tryz.f206 (encL [(.pair qI (.list qL)),(.list qI),(.list qI)] (x0,x1,x2)) =
 (chk (decide (x2.length<4611686018427387904)) (some (leaving x0 x2))).bind (fun y0=>bif y0.2 != (0:Int) then (some (.tup [(.int .i64 0),(.int .i64 800)])) else (bif !capsMay x0 x1 then (some (.tup [(.int .i64 0),(.int .i64 800)])) else (f206.l0 k k x1 ((↑y0.1.length:Int)) 0 0 y0.1))):=by kernel_rfl
theorem f206.inl (k:Nat):InlOk Tryz.prog (f206.E k):=(inl_cons (by kernel_rfl) (by kernel_rfl) (inl_cons (by kernel_rfl) (by kernel_rfl) (inl_cons (by kernel_rfl) (by kernel_rfl) inl_nil)))
theorem f206.sums (k:Nat):SumsOk Tryz.prog (f206.E k):=(sums_cons ok235 (sums_cons ok125 (sums_cons ok174 sums_nil)))
end
section
@[reducible] def resII (x:Int×Int):V:=.tup [.int .i64 x.1,.int .i64 x.2]
def rdI (cs:List Int) (l:Int):Int:=rd (Ty.int Go.IntKind.i64) cs l
theorem rdI_eq {cs:List Int} {l:Int}:rd (Ty.int Go.IntKind.i64) cs l=rdI cs l:=rfl
theorem rdI_some {cs:List Int} {i:Nat} {x:Int} (h:cs[i]? = some x):rdI cs (i:Int)=x:=rd_some (t:=tI) h
def pickSum (cs:List Int) (L:List Int):Int:=(L.map fun l=>rdI cs l).sum
theorem leave_in (vs:List Int):∀ (ls:List Lk) (i:Nat),∀ l∈leaveFrom vs i ls,∃ j:Nat,l=(j:Int)∧i≤j∧j<i+ls.length
 | [],_,l,h=>by simp [leaveFrom] at h
 |x::ls,i,l,h=>by
  have key:l∈leaveFrom vs (i+1) ls→∃ j:Nat,l=(j:Int)∧i≤j∧j<i+(x::ls).length:=fun h=>by
   obtain ⟨j,h1,h2,h3⟩:=leave_in vs ls (i+1) l h
   exact ⟨j,h1,by omega,by simp only [List.length_cons];omega⟩
  simp only [leaveFrom] at h
  cases hb:leavesB vs x with
  |false=>rw [hb,cF] at h;exact key h
  |true =>
   rw [hb,cT] at h
   rcases List.mem_cons.1 h with rfl|h
   ·exact ⟨i,rfl,Nat.le_refl _,by simp⟩
   ·exact key h
theorem leave_len (vs:List Int):∀ (ls:List Lk) (i:Nat),(leaveFrom vs i ls).length≤ls.length
 | [],_=>by simp [leaveFrom]
 |x::ls,i=>by
  have:=leave_len vs ls (i+1)
  simp only [leaveFrom]
  cases leavesB vs x
  ·rw [cF];simp only [List.length_cons];omega
  ·rw [cT];simp only [List.length_cons];omega
theorem pick_leave (vs cs:List Int):∀ (ls:List Lk) (i:Nat),(cs.drop i).length=ls.length→pickSum cs (leaveFrom vs i ls)=worthL vs ls (cs.drop i)
 | [],i,h=>by
  have:cs.drop i=[]:=List.length_eq_zero_iff.1 h
  simp [leaveFrom,pickSum,worthL]
 |x::ls,i,h=>by
  have hlt:i<cs.length:=by
   rw [List.length_drop,List.length_cons] at h
   omega
  have hc:cs[i]? = some cs[i]:=gE hlt
  have ih:=pick_leave vs cs ls (i+1) (by rw [List.length_drop,List.length_cons] at h;rw [List.length_drop];omega)
  rw [List.drop_eq_getElem_cons hlt]
  simp only [leaveFrom,worthL]
  rw [← ih]
  cases leavesB vs x
  ·rw [cF,cF,Int.zero_add]
  ·rw [cT,cT]
   unfold pickSum
   rw [List.map_cons,List.sum_cons,rdI_some hc]
theorem pick_lo {cs L:List Int} (h:∀ l∈L,0≤rdI cs l):0≤pickSum cs L:=sum_nonneg' _ fun x hx=>by
 obtain ⟨l,hl,rfl⟩:=List.mem_map.1 hx
 exact h l hl
def GoodL (cs L:List Int):Prop:=∀ l∈L,(0≤l∧l<(cs.length:Int))∧0≤rdI cs l
theorem sumTold1 {c:Int} (h:0≤c∧c≤maxRate):sumTold [c]=(c,true):=by
 unfold sumTold
 simp only [sumUp]
 rw [dT (by simpa using h),cT,Int.zero_add]
theorem sumTold2 {a c:Int} (ha:0≤a∧a≤maxRate) (hc:0≤c) (h:a+c≤maxRate):sumTold [a,c]=(a+c,true):=by
 unfold sumTold
 simp only [sumUp]
 rw [dT (by simpa using ha),cT,dT ⟨hc,by omega⟩,cT,Int.zero_add]
theorem idxI_in {cs:List Int} {l:Int} (h:0≤l∧l<(cs.length:Int)):decide (0≤l∧l<(cs.length:Int))=true:=dT h
theorem f206.l0_is (k:Nat) (cs L:List Int) (hL:L.length≤16) (hg:GoodL cs L):∀ (n i:Nat) (a:Int),i≤L.length→L.length<n+i→0≤a→a+pickSum cs (L.drop i)≤maxRate →
  f206.l0 k n cs L.length i a L=some (resII (a+pickSum cs (L.drop i),0))
 |0,i,_,h,h',_,_=>by omega
 |n+1,i,a,h,h',h0,h1=>by
  by_cases hlt:i<L.length
  ·have hx:=gE hlt
   have hgd:=hg L[i] (List.getElem_mem hlt)
   rw [List.drop_eq_getElem_cons hlt] at h1 ⊢
   have hrest:0≤pickSum cs (L.drop (i+1)):=pick_lo fun l hl=>(hg l (List.mem_of_mem_drop hl)).2
   have e:pickSum cs (L[i]::L.drop (i+1))=rdI cs L[i]+pickSum cs (L.drop (i+1)):=by unfold pickSum;rw [List.map_cons,List.sum_cons]
   rw [e] at h1 ⊢
   have h1':a+(rdI cs L[i]+pickSum cs (L.drop (i+1)))≤4611686018427387904:=h1
   have hc:=hgd.2
   have hcm:rdI cs L[i]≤4611686018427387904:=by omega
   have hac:a+rdI cs L[i]≤4611686018427387904:=by omega
   have ham:a≤4611686018427387904:=by omega
   have s1:sumTold [rdI cs L[i]]=(rdI cs L[i],true):=sumTold1 ⟨hc,hcm⟩
   have s2:sumTold [a,rdI cs L[i]]=(a+rdI cs L[i],true):=sumTold2 ⟨h0,ham⟩ hc hac
   rw [f206.l0_eq,idx_lt' hx,idx_in hx,Int.toNat_natCast,rd_some (t:=tI) hx,wrap_succ (by omega),cT,kT,idxI_in hgd.1,kT,rdI_eq,s1]
   simp only [nT,cF]
   rw [s2]
   simp only [cT]
   rw [f206.l0_is k cs L hL hg n (i+1) (a+rdI cs L[i]) (by omega) (by omega) (by omega) (show a+rdI cs L[i]+pickSum cs (L.drop (i+1))≤4611686018427387904 by omega),Int.add_assoc]
  ·obtain rfl:i=L.length:=by omega
   rw [f206.l0_eq,end_lt,cF,List.drop_length]
   simp [pickSum]
theorem withinL_get:∀ {cs:List Int} {ls:List Lk},withinL cs ls=true→∀ c∈cs,0≤c
 | [],_,_,c,hc=>by simp at hc
 |x::cs,l::ls,h,c,hc=>by
  simp only [withinL,bA] at h
  rcases List.mem_cons.1 hc with rfl|hc
  ·exact (oD h.1).1
  ·exact withinL_get h.2 c hc
 |_::_,[],h,_,_=>by simp [withinL] at h
theorem good_leave {g:Gr} {cs:List Int} (h:capsMay g cs=true) (vs:List Int):GoodL cs (leaveFrom vs 0 g.2)∧pickSum cs (leaveFrom vs 0 g.2)=worthL vs g.2 cs:=by
 simp only [capsMay,bA] at h
 have hl:=withinL_len h.2
 refine ⟨fun l hl'=>?_,?_⟩
 ·obtain ⟨j,rfl,h1,h2⟩:=leave_in vs g.2 0 l hl'
  have hj:j<cs.length:=by omega
  have hc:cs[j]? = some cs[j]:=gE hj
  exact ⟨⟨by omega,by omega⟩,by rw [rdI_some hc];exact withinL_get h.2 _ (List.getElem_mem hj)⟩
 ·have:=pick_leave vs cs g.2 0 (by rw [List.drop_zero];exact hl)
  rwa [List.drop_zero] at this
noncomputable def S206:Summ:=summ [tG,tL,tL] (Int×Int) (fun (d:Gr×(List Int×List Int))=>chk (decide (d.2.2.length<4611686018427387904)) (some (worth d.1 d.2.1 d.2.2))) resII
theorem caps_graph {g:Gr} {cs:List Int} (h:capsMay g cs=true):graphMay g=true:=by
 simp only [capsMay,bA] at h
 exact h.1
theorem ok206:SumOk Tryz.prog 206 S206 :=
 sumq f206.E (fn:=Tryz.f206) (code:=f206.code) f206.sums f206.inl fun (d:Gr×(List Int×List Int)) x hx=>by
  obtain ⟨g,cs,vs⟩:=d
  obtain ⟨hb,hx⟩:=chk_some hx
  obtain rfl:=oJ hx
  refine ⟨17,(f206.eq _ g cs vs).trans ?_⟩
  rw [chk_eq hb,bS]
  unfold leaving worth
  cases hc:capsMay g cs with
  |false =>
   cases risingB g.1 none vs&&graphMay g with
   |false=>rw [cF,Bool.and_false,cF];rfl
   |true=>rw [cT,Bool.and_false,cF,show ((0:Int) != 0)=false by decide,cF,nF,cT]
  |true =>
   simp only [caps_graph hc,Bool.and_true]
   cases risingB g.1 none vs with
   |false=>rw [cF,cF];rfl
   |true =>
    rw [cT,cT,show ((0:Int) != 0)=false by decide,cF,nT,cF]
    have h16:=links_few (caps_graph hc)
    have hlen:=leave_len vs g.2 0
    obtain ⟨h1,h2⟩:=good_leave hc vs
    have hw:=worth_lo hc vs
    have:=f206.l0_is 17 cs (leaveFrom vs 0 g.2) (by omega) h1 17 0 0 (by omega) (by omega) (by omega) (by rw [List.drop_zero,h2];omega)
    rw [List.drop_zero,h2,Int.zero_add] at this
    exact this
end
section
theorem sumTold_over {a c:Int} (ha:0≤a∧a≤maxRate) (h:c>maxRate - a):(sumTold [a,c]).2=false:=by
 unfold sumTold
 simp only [sumUp]
 rw [show decide (0≤a∧a≤maxRate - 0)=true from dT (by omega),cT,show decide (0≤c∧c≤maxRate - (0+a))=false from dF (by omega),cF]
theorem rd_back (out:List Int) (k:Int):rd tI out (↑(Int.toNat k):Int)=rd tI out k:=by
 unfold rd
 rw [Int.toNat_natCast]
theorem rd_one (out:List Int) (k:Int):rd (Ty.int Go.IntKind.i64).one out (↑(Int.toNat k):Int)=rd tI out k:=rd_back out k
def thenL {R:Type} (r:Option (List Int)) (f:List Int→Option R) (e:Option R):Option R:=match r with
 |some o=>f o
 |none=>e
theorem thenL_congr {R:Type} {r:Option (List Int)} {f g:List Int→Option R} {e:Option R} (h:∀ o,r=some o→f o=g o):thenL r f e=thenL r g e:=by
 cases r with
 |none=>rfl
 |some o=>exact h o rfl
theorem thenL_bind {R:Type} {r:Option (List Int)} {q:List Int→Option (List Int)} {f:List Int→Option R} {e:Option R}:thenL (r.bind q) f e=thenL r (fun o=>thenL (q o) f e) e:=by
 cases r <;> rfl
def inR (out:List Int):Prop:=∀ x∈out,0≤x∧x≤maxRate
theorem f189.l1_is (k m0:Nat) (ps:List Pt) (i:Nat) (r:Int) (ls:List Int) (gl:List Lk) (hi:i<ps.length) (hps:ps.length≤16) (hr:0≤r∧r≤maxRate) (hl:ls.length≤64) (hall:ls.all (lkIn gl)=true):∀ (n j:Nat) (out:List Int),j≤ls.length→ls.length<n+j→out.length=gl.length→inR out →
  f189.l1 k n m0 ps (ps.length:Int) (i:Int) ls (ls.length:Int) (j:Int) out r=thenL (addLs r (ls.drop j) out) (fun o=>f189.l0 k m0 ps (ps.length:Int) ((i+1:Nat):Int) o) (some (resLE ([],701)))
 |0,j,out,h,h',_,_=>by omega
 |n+1,j,out,h,h',ho,hin=>by
  by_cases hlt:j<ls.length
  ·have hx:=gE hlt
   have hk:=oD (List.all_eq_true.1 hall _ (List.getElem_mem hlt))
   have hk2:0≤ls[j]∧ls[j]<(out.length:Int):=by omega
   have hb:decide (0≤ls[j]∧ls[j]<(↑out.length:Int))=true:=dT hk2
   have hv:=hin _ (List.mem_of_getElem? (rd_in hk2))
   have s1:sumTold [r]=(r,true):=sumTold1 hr
   rw [f189.l1_eq,idx_lt' hx,cT,idx_in hx,kT,List.drop_eq_getElem_cons hlt,wrap_succ (i:=j) (by omega)]
   simp only [rd_some (t:=tI) hx,chk_eq hb,s1,nT,cF,rd_one,addLs,thenL_bind]
   by_cases hov:r>maxRate - rd tI out ls[j]
   ·have s2:(sumTold [rd tI out ls[j],r]).2=false:=sumTold_over hv hov
    simp only [s2,nF,cF,cT]
    unfold addK
    rw [dT hov,cT]
    rfl
   ·have s2:sumTold [rd tI out ls[j],r]=(rd tI out ls[j]+r,true):=sumTold2 hv hr.1 (by omega)
    simp only [s2,nT,cF,cT]
    have ha:addK out ls[j] r=some (out.set ls[j].toNat (rd tI out ls[j]+r)):=by
     unfold addK
     rw [dF hov,cF]
    rw [ha]
    exact f189.l1_is k m0 ps i r ls gl hi hps hr hl hall n (j+1) _ (by omega) (by omega) (by rw [List.length_set];exact ho) (addK_in hr.1 hin hk2 ha)
  ·obtain rfl:j=ls.length:=by omega
   rw [f189.l1_eq,end_lt,cF,List.drop_length,wrap_succ (by omega)]
   rfl
theorem f189.l2_is (k:Nat) (out:List Int) (hl:out.length≤16):∀ (n i:Nat) (acc:List Int),i≤out.length→out.length<n+i→acc.length=out.length→(∀ j,j<i→acc[j]? = out[j]?)→f189.l2 k n (out.length:Int) (i:Int) out acc=some (resLE (out,0))
 |0,i,acc,h,h',_,_=>by omega
 |n+1,i,acc,h,h',ha,he=>by
  by_cases hlt:i<out.length
  ·have hx:=gE hlt
   rw [f189.l2_eq,idx_lt' hx,cT,idx_in hx,kT,chk_eq (dT ⟨by omega,by omega⟩),wrap_succ (by omega),rd_one,rd_some (t:=tI) hx,Int.toNat_natCast]
   refine f189.l2_is k out hl n (i+1) _ (by omega) (by omega) (by rw [List.length_set];exact ha) fun j hj=>?_
   rw [List.getElem?_set]
   by_cases hij:i=j
   ·subst hij
    rw [if_pos rfl,if_pos (by omega),hx]
   ·rw [if_neg hij]
    exact he j (by omega)
  ·obtain rfl:i=out.length:=by omega
   have e:acc=out:=by
    apply List.ext_getElem?
    intro j
    by_cases hj:j<out.length
    ·exact he j hj
    ·rw [List.getElem?_eq_none (by omega),List.getElem?_eq_none (by omega)]
   rw [f189.l2_eq,end_lt,cF,e]
theorem f189.l0_is (k:Nat) (ps:List Pt) (gl:List Lk) (hps:ps.length≤16) (hgl:gl.length≤16) (hall:ps.all (ptOk gl)=true) (hk:65<k):∀ (n i:Nat) (out:List Int),i≤ps.length→ps.length<n+i→out.length=gl.length→inR out →
  f189.l0 k n ps (ps.length:Int) (i:Int) out=thenL (addPs (ps.drop i) out) (fun o=>some (resLE (o,0))) (some (resLE ([],701)))
 |0,i,out,h,h',_,_=>by omega
 |n+1,i,out,h,h',ho,hin=>by
  by_cases hlt:i<ps.length
  ·have hx:=gE hlt
   obtain ⟨h1,h2,h3⟩:=ptOk_in (List.all_eq_true.1 hall _ (List.getElem_mem hlt))
   have h1:=oD h1
   rw [f189.l0_eq,idx_lt' hx,cT,idx_in hx,kT,rd_some (t:=tP) hx,List.drop_eq_getElem_cons hlt]
   refine (f189.l1_is k n ps i ps[i].1 ps[i].2 gl hlt hps h1 h2 h3 k 0 out (by omega) (by omega) ho hin).trans ?_
   rw [List.drop_zero]
   simp only [addPs,thenL_bind]
   refine thenL_congr fun o hoo=>?_
   have hin2:∀ q∈ps[i].2,0≤q∧q<(out.length:Int):=fun q hq=>by
    have:=oD (List.all_eq_true.1 h3 q hq)
    omega
   exact f189.l0_is k ps gl hps hgl hall hk n (i+1) o (by omega) (by omega) (by rw [addLs_len _ _ hoo];exact ho) (addLs_in _ h1.1 _ hin hin2 hoo)
  ·obtain rfl:i=ps.length:=by omega
   rw [f189.l0_eq,end_lt,cF,List.drop_length,chk_eq (dT ⟨by omega,by omega⟩),chk_eq (dT ⟨by omega,by omega⟩)]
   refine (f189.l2_is k out (by omega) k 0 _ (by omega) (by omega) (by rw [List.length_replicate];omega) (fun j hj=>by omega)).trans ?_
   rfl
noncomputable def S189:Summ:=summ [tG,.list tP] (List Int×Int) (fun (d:Gr×List Pt)=>some (loadsOf d.1 d.2)) resLE
theorem zeros_in (n:Nat):inR (List.replicate n 0):=fun x hx=>by
 rw [List.mem_replicate] at hx
 rw [hx.2]
 exact ⟨by decide,by decide⟩
theorem bForm_in {g:Gr} {ps:List Pt} (h:bForm g ps=true):graphMay g=true∧ps.length≤16∧ps.all (ptOk g.2)=true:=by
 simp only [bForm,bA,dE] at h
 exact h
theorem loadsOf_then {g:Gr} {ps:List Pt} (h:bForm g ps=true):some (resLE (loadsOf g ps))=thenL (addPs ps (List.replicate g.2.length 0)) (fun o=>some (resLE (o,0))) (some (resLE ([],701))):=by
 unfold loadsOf
 rw [h,cT]
 cases addPs ps (List.replicate g.2.length 0) <;> rfl
theorem ok189:SumOk Tryz.prog 189 S189 :=
 sumq f189.E (fn:=Tryz.f189) (code:=f189.code) f189.sums f189.inl fun (d:Gr×List Pt) x hx=>by
  obtain ⟨g,ps⟩:=d
  obtain rfl:=oJ hx
  refine ⟨66,(f189.eq _ g ps).trans ?_⟩
  show _=some (resLE (loadsOf g ps))
  cases hf:bForm g ps with
  |false =>
   rw [nF,cT]
   unfold loadsOf
   rw [hf,cF]
  |true =>
   obtain ⟨h1,h2,h3⟩:=bForm_in hf
   have h4:=links_few h1
   rw [nT,cF,chk_eq (dT ⟨by omega,by omega⟩),chk_eq (dT ⟨by omega,by omega⟩),loadsOf_then hf,Int.toNat_natCast]
   exact f189.l0_is 66 ps g.2 h2 h4 h3 (by omega) 66 0 _ (by omega) (by omega) (by rw [List.length_replicate]) (zeros_in _)
noncomputable def S169:Summ:=summ [tG,tI,tI,tI,.list tP] Bool (fun (d:Gr×(Int×(Int×(Int×List Pt))))=>some (mayB d.1 d.2.1 d.2.2.1 d.2.2.2.1 d.2.2.2.2)) .bool
theorem sumTold_is (xs:List Int) (want:Int):(bif (sumTold xs).2 then some (V.bool ((sumTold xs).1==want)) else some (.bool false))=some (.bool (sumUp 0 xs==some want)):=by
 unfold sumTold
 cases sumUp 0 xs with
 |none=>rfl
 |some s=>rfl
theorem f169.l0_is (k:Nat) (src dst want:Int) (ps:List Pt) (g:Gr) (hps:ps.length≤16):∀ (n i:Nat),i≤ps.length→ps.length<n+i →
  f169.l0 k n src dst want ps (ps.length:Int) (i:Int) g.1 g.2=some (.bool ((ps.drop i).all (fun p=>decide (0<p.1)&&pathB g src dst p.2)&&(sumUp 0 (ratesOf ps)==some want)))
 |0,i,h,h'=>by omega
 |n+1,i,h,h'=>by
  by_cases hlt:i<ps.length
  ·have hx:=gE hlt
   rw [f169.l0_eq,idx_lt' hx,cT,idx_in hx,kT,rd_some (t:=tP) hx,drop_all _ hlt,wrap_succ (by omega)]
   by_cases h0:0<ps[i].1
   ·rw [show decide (ps[i].1≤0)=false from dF (by omega),cF,dT h0,tA,show pathB (g.1,g.2) src dst ps[i].2=pathB g src dst ps[i].2 from rfl]
    cases pathB g src dst ps[i].2 with
    |false=>rw [nF,cT,fA,fA]
    |true =>
     rw [nT,cF,tA]
     exact f169.l0_is k src dst want ps g hps n (i+1) (by omega) (by omega)
   ·rw [show decide (ps[i].1≤0)=true from dT (by omega),cT,dF h0,fA,fA,fA]
  ·obtain rfl:i=ps.length:=by omega
   have hrl:(ratesOf ps).length=ps.length:=by simp [ratesOf]
   rw [f169.l0_eq,end_lt,cF,List.drop_length,chk_eq (dT (by omega)),bS,chk_eq (dT (by omega)),bS,sumTold_is]
   rfl
theorem ok169:SumOk Tryz.prog 169 S169 :=
 sumq f169.E (fn:=Tryz.f169) (code:=f169.code) f169.sums f169.inl fun (d:Gr×(Int×(Int×(Int×List Pt)))) x hx=>by
  obtain ⟨g,src,dst,want,ps⟩:=d
  obtain rfl:=oJ hx
  refine ⟨17,(f169.eq _ g src dst want ps).trans ?_⟩
  show _=some (V.bool (mayB g src dst want ps))
  unfold mayB
  cases graphMay g with
  |false=>rw [nF,cT,fA]
  |true =>
   rw [nT,cF,tA]
   by_cases h0:0<want
   ·rw [show decide (want≤0)=false from dF (by omega),cF,dT h0,tA]
    by_cases h:ps.length≤16
    ·rw [show decide ((↑ps.length:Int)>(16:Int))=false from dF (by omega),cF,dT h,tA]
     exact f169.l0_is 17 src dst want ps g h 17 0 (by omega) (by omega)
    ·rw [show decide ((↑ps.length:Int)>(16:Int))=true from dT (by omega),cT,dF h,fA]
   ·rw [show decide (want≤0)=true from dT (by omega),cT,dF h0,fA]
end
section
set_option maxRecDepth 100000
noncomputable def f170.E (k:Nat):Env:=mkEnv tt [(189,S189),(125,S125)] [] [(170,7,[.kill (rg [(0,0),(2,24),(28,38)]),.tidy])] [] k
noncomputable def f170.code:Go.Code:=cd Tryz.f170
noncomputable def f170.l0 (k n:Nat) (p0:List Int) (p1:Int) (p2:Int) (p3:List Int):Option V :=
 atPath (f170.E k) n ⟨(.u::(.ro qI p0)::.u::.u::.u::.u::.u::.u::.u::.u::.u::.u::.u::.u::.u::.u::.u::.u::.u::.u::.u::.u::.u::.u::.u::(.slw 6553616)::(.int .i64 p1)::(.int .i64 p2)::un 11),[],[(6553616,.row qI p3)]⟩ 9 0 170 [.c 1,.c 1,.c 1,.c 1,.c 0,.c 1,.c 0] [] f170.code (finK tt Tryz.f170)
theorem f170.l0_eq (k n:Nat) (p0:List Int) (p1:Int) (p2:Int) (p3:List Int):f170.l0 k (n+1) p0 p1 p2 p3 =
 bif decide (p2<p1) then (chk (decide ((0:Int)≤p2∧p2<(↑p3.length:Int))) (chk (decide ((0:Int)≤p2∧p2<(↑p0.length:Int))) (bif decide (rd qI p3 (↑p2.toNat:Int)>rd qI p0 p2) then (some (.tup [(.bool false),(.int .i64 0)])) else (f170.l0 k n p0 p1 (Go.IntKind.i64.wrap (p2+(1:Int))) p3)))) else (some (.tup [(.bool true),(.int .i64 0)])):=by kernel_rfl
theorem f170.eq (k:Nat) (x0:Int×List (eL)) (x1:List Int) (x2:List (eP)):evFn (f170.E k) 9 170 Tryz.f170 (encL [(.pair qI (.list qL)),(.list qI),(.list qP)] (x0,x1,x2)) =
 bif !capsMay x0 x1 then (some (.tup [(.bool false),(.int .i64 700)])) else (bif (loadsOf x0 x2).2 != (0:Int) then (some (.tup [(.bool false),(.int .i64 ((loadsOf x0 x2).2))])) else (f170.l0 k k x1 ((↑(loadsOf x0 x2).1.length:Int)) 0 ((loadsOf x0 x2).1))):=by kernel_rfl
theorem f170.inl (k:Nat):InlOk Tryz.prog (f170.E k):=inl_nil
theorem f170.sums (k:Nat):SumsOk Tryz.prog (f170.E k):=(sums_cons ok189 (sums_cons ok125 sums_nil))
end
section
@[reducible] def resBE (x:Bool×Int):V:=.tup [.bool x.1,.int .i64 x.2]
def overB (x:Int×Int):Bool:=decide (x.1>x.2)
def fitsOf (g:Gr) (cs:List Int) (ps:List Pt):Bool×Int :=
 bif capsMay g cs then (bif (loadsOf g ps).2 != 0 then (false,(loadsOf g ps).2) else (!((loadsOf g ps).1.zip cs).any overB,0)) else (false,700)
theorem loadsOf_ok {g:Gr} {ps:List Pt} (h:(loadsOf g ps).2=0):∃ out,bForm g ps=true∧addPs ps (List.replicate g.2.length 0)=some out∧loadsOf g ps=(out,0)∧out.length=g.2.length∧inR out:=by
 cases hf:bForm g ps with
 |false =>
  unfold loadsOf at h
  rw [hf,cF] at h
  simp at h
 |true =>
  cases ha:addPs ps (List.replicate g.2.length 0) with
  |none =>
   unfold loadsOf at h
   rw [hf,cT,ha] at h
   simp at h
  |some out =>
   refine ⟨out,rfl,rfl,?_,by rw [addPs_len _ ha,List.length_replicate],addPs_in g.2 ps (bForm_in hf).2.2 (by rw [List.length_replicate]) (zeros_in _) ha⟩
   unfold loadsOf
   rw [hf,cT,ha]
noncomputable def S170:Summ:=summ [tG,tL,.list tP] (Bool×Int) (fun (d:Gr×(List Int×List Pt))=>some (fitsOf d.1 d.2.1 d.2.2)) resBE
theorem ok170:SumOk Tryz.prog 170 S170 :=
 sumq f170.E (fn:=Tryz.f170) (code:=f170.code) f170.sums f170.inl fun (d:Gr×(List Int×List Pt)) x hx=>by
  obtain ⟨g,cs,ps⟩:=d
  obtain rfl:=oJ hx
  refine ⟨17,(f170.eq _ g cs ps).trans ?_⟩
  show _=some (resBE (fitsOf g cs ps))
  unfold fitsOf
  cases hc:capsMay g cs with
  |false=>rw [nF,cT,cF]
  |true =>
   rw [nT,cF,cT]
   cases hl:(loadsOf g ps).2 != 0 with
   |true=>rw [cT,cT]
   |false =>
    obtain ⟨out,h1,h2,h3,h4,h5⟩:=loadsOf_ok (g:=g) (ps:=ps) (by simpa using hl)
    have hcl:cs.length=g.2.length:=by
     simp only [capsMay,bA] at hc
     exact withinL_len hc.2
    have hgl:=links_few (caps_graph hc)
    have hz:(out.zip cs).length=out.length:=by simp;omega
    rw [cF,cF,h3]
    simp only []
    refine (loop_any0 (fun n i=>f170.l0 17 n cs (out.length:Int) (i:Nat) out) (out.zip cs) overB (some (resBE (false,0))) (some (resBE (true,0))) (fun n i x hx=>by
     obtain ⟨ha,hb⟩:=zip_get hx
     have:=idx_lt ha
     rw [f170.l0_eq,idx_lt' ha,cT,idx_in ha,kT,idx_in hb,kT,rd_nat (t:=tI) ha,rd_some (t:=tI) hb,wrap_succ (by omega)]
     rfl) (fun n=>by rw [hz,f170.l0_eq,end_lt,cF]) (n:=17) (by omega)).trans ?_
    cases (out.zip cs).any overB <;> rfl
end
section
section
variable (l:List Int)
end
end
section
set_option maxRecDepth 100000
noncomputable def f168.E (k:Nat):Env:=mkEnv tt [(207,S207),(206,S206),(125,S125)] [] [] [] k
noncomputable def f168.code:Go.Code:=cd Tryz.f168
theorem f168.eq (k:Nat) (x0:Int×List (eL)) (x1:List Int) (x2:Int) (x3:Int) (x4:Int) (x5:List Int):evFn (f168.E k) 9 168 Tryz.f168 (encL [(.pair qI (.list qL)),(.list qI),qI,qI,qI,(.list qI)] (x0,x1,x2,x3,x4,x5)) =
 bif !capsMay x0 x1 then (some (.tup [(.bool false),(.int .i64 800)])) else ((chk (decide (x5.length<4611686018427387904)) (some (worth x0 x1 x5))).bind (fun y0=>bif y0.2==(0:Int) then (bif decide (y0.1<x4) then ((chk (decide (x5.length<4611686018427387904)) (some (cutMay x0 x2 x3 x5))).bind (fun y1=>some (.tup [(.bool y1),(.int .i64 0)]))) else (some (.tup [(.bool false),(.int .i64 0)]))) else (some (.tup [(.bool false),(.int .i64 0)])))):=by kernel_rfl
theorem f168.inl (k:Nat):InlOk Tryz.prog (f168.E k):=inl_nil
theorem f168.sums (k:Nat):SumsOk Tryz.prog (f168.E k):=(sums_cons ok207 (sums_cons ok206 (sums_cons ok125 sums_nil)))
end
section
@[reducible] def resBI (x:Bool×Int):V:=.tup [.bool x.1,.int .i64 x.2]
noncomputable def S168:Summ:=summ [tG,tL,tI,tI,tI,tL] (Bool×Int) (fun (d:Gr×(List Int×(Int×(Int×(Int×List Int)))))=>chk (decide (d.2.2.2.2.2.length<4611686018427387904)) (some (proves d.1 d.2.1 d.2.2.1 d.2.2.2.1 d.2.2.2.2.1 d.2.2.2.2.2))) resBI
theorem ok168:SumOk Tryz.prog 168 S168 :=
 sumq f168.E (fn:=Tryz.f168) (code:=f168.code) f168.sums f168.inl fun (d:Gr×(List Int×(Int×(Int×(Int×List Int))))) x hx=>by
  obtain ⟨g,cs,src,dst,want,vs⟩:=d
  obtain ⟨hb,hx⟩:=chk_some hx
  obtain rfl:=oJ hx
  refine ⟨0,(f168.eq _ g cs src dst want vs).trans ?_⟩
  rw [chk_eq hb,bS,chk_eq hb,bS]
  unfold worth proves cutMay
  cases hc:capsMay g cs with
  |false=>rw [nF,cT,cF]
  |true =>
   simp only [caps_graph hc,Bool.and_true,nT,cF,cT]
   cases risingB g.1 none vs with
   |false=>rw [cF];rfl
   |true =>
    rw [cT]
    cases decide (worthL vs g.2 cs<want) <;> cases hasV g.1 dst <;> cases amongB vs src <;> cases amongB vs dst <;> rfl
end
section
set_option maxRecDepth 100000
noncomputable def f190.E (k:Nat):Env:=mkEnv tt [(77,S77),(122,S122)] [] [] [] k
noncomputable def f190.code:Go.Code:=cd Tryz.f190
theorem f190.eq (k:Nat) (x0:(Int×Int)×Int):evFn (f190.E k) 9 190 Tryz.f190 (encL [(.pair qS qI)] x0) =
 bif spanMay x0.1 then (some (.bool (rateB x0.2))) else (some (.bool false)):=by kernel_rfl
theorem f190.inl (k:Nat):InlOk Tryz.prog (f190.E k):=inl_nil
theorem f190.sums (k:Nat):SumsOk Tryz.prog (f190.E k):=(sums_cons ok77 (sums_cons ok122 sums_nil))
noncomputable def f200.E (k:Nat):Env:=mkEnv tt [(77,S77)] [] [] [] k
noncomputable def f200.code:Go.Code:=cd Tryz.f200
theorem f200.eq (k:Nat) (x0:Int×Int) (x1:Int):evFn (f200.E k) 9 200 Tryz.f200 (encL [qS,qI] (x0,x1)) =
 bif spanMay x0 then (bif decide (x0.1≤x1) then (some (.bool (decide (x1<x0.2)))) else (some (.bool false))) else (some (.bool false)):=by kernel_rfl
theorem f200.inl (k:Nat):InlOk Tryz.prog (f200.E k):=inl_nil
theorem f200.sums (k:Nat):SumsOk Tryz.prog (f200.E k):=(sums_cons ok77 sums_nil)
noncomputable def f195.E (k:Nat):Env:=mkEnv tt [(122,S122)] [] [(195,4,[.kill (rg [(1,14),(18,57)]),.tidy])] [] k
noncomputable def f195.code:Go.Code:=cd Tryz.f195
noncomputable def f195.l0 (k n:Nat) (p0:List (Int×Int)) (p1:Int) (p2:Int):Option V :=
 atPath (f195.E k) n ⟨((.ro qS p0)::.u::.u::.u::.u::.u::.u::.u::.u::.u::.u::.u::.u::.u::.u::(.ro qS p0)::(.int .i64 p1)::(.int .i64 p2)::un 40),[],[]⟩ 9 0 195 [.c 1,.c 1,.c 0,.c 1,.c 0] [] f195.code (finK tt Tryz.f195)
theorem f195.l0_eq (k n:Nat) (p0:List (Int×Int)) (p1:Int) (p2:Int):f195.l0 k (n+1) p0 p1 p2 =
 bif decide (p2<p1) then (chk (decide ((0:Int)≤p2∧p2<(↑p0.length:Int))) (bif decide ((rd qS p0 p2).1 ≥ (4096:Int)) then (some (.bool false)) else (bif !rateB (rd qS p0 p2).2 then (some (.bool false)) else (bif decide (p2>(0:Int)) then (chk (decide ((0:Int)≤Go.IntKind.i64.wrap (p2 - (1:Int))∧Go.IntKind.i64.wrap (p2 - (1:Int))<(↑p0.length:Int))) (bif decide ((rd qS p0 p2).1≤(rd qS p0 (Go.IntKind.i64.wrap (p2 - (1:Int)))).1) then (some (.bool false)) else (chk (decide ((0:Int)≤Go.IntKind.i64.wrap (p2 - (1:Int))∧Go.IntKind.i64.wrap (p2 - (1:Int))<(↑p0.length:Int))) (bif (rd qS p0 p2).2==(rd qS p0 (Go.IntKind.i64.wrap (p2 - (1:Int)))).2 then (some (.bool false)) else (f195.l0 k n p0 p1 (Go.IntKind.i64.wrap (p2+(1:Int)))))))) else (f195.l0 k n p0 p1 (Go.IntKind.i64.wrap (p2+(1:Int)))))))) else (some (.bool true)):=by kernel_rfl
theorem f195.eq (k:Nat) (x0:List (Int×Int)):evFn (f195.E k) 9 195 Tryz.f195 (encL [(.list qS)] x0) =
 bif (↑x0.length:Int)==(0:Int) then (some (.bool false)) else (chk (decide ((0:Int)≤(0:Int)∧(0:Int)<(↑x0.length:Int))) (bif (rd qS x0 (0:Int)).1 != (0:Int) then (some (.bool false)) else (f195.l0 k k x0 ((↑x0.length:Int)) 0))):=by kernel_rfl
theorem f195.inl (k:Nat):InlOk Tryz.prog (f195.E k):=inl_nil
theorem f195.sums (k:Nat):SumsOk Tryz.prog (f195.E k):=(sums_cons ok122 sums_nil)
noncomputable def f196.E (k:Nat):Env:=mkEnv tt [] [(231,Tryz.f231),(232,Tryz.f232)] [(231,3,[.kill (rg [(3,7),(11,48)]),.tidy])] [(231,640,(rg [(0,9),(11,14)]))] k
noncomputable def f196.code:Go.Code:=cd Tryz.f196
noncomputable def f196.l0 (k n:Nat) (p0:List (Int×Int)) (p1:Int) (p2:Int) (p3:Int) (p4:Int):Option V :=
 atPath (f196.E k) n ⟨((.ro qS p0)::(.int .i64 p1)::(.fn 232 [])::.u::.u::.u::.u::.u::(.int .i64 p2)::(.int .i64 p3)::(.int .i64 p4)::un 38),[(un 15)],[]⟩ 9 0 196 [.c 1,.c 0,.call 2 231,.c 1,.c 1,.c 1,.c 0,.c 0] [] f196.code (finK tt Tryz.f196)
theorem f196.l0_eq (k n:Nat) (p0:List (Int×Int)) (p1:Int) (p2:Int) (p3:Int) (p4:Int):f196.l0 k (n+1) p0 p1 p2 p3 p4 =
 bif decide (p3<p4) then (chk (decide ((0:Int)≤Go.IntKind.i64.wrap ((Go.IntKind.u64.wrap (Go.IntKind.i64.wrap (p3+p4))).fdiv ((2:Int) ^ 1))∧Go.IntKind.i64.wrap ((Go.IntKind.u64.wrap (Go.IntKind.i64.wrap (p3+p4))).fdiv ((2:Int) ^ 1))<(↑p0.length:Int))) (bif decide ((rd qS p0 (Go.IntKind.i64.wrap ((Go.IntKind.u64.wrap (Go.IntKind.i64.wrap (p3+p4))).fdiv ((2:Int) ^ 1)))).1≤p1) then (f196.l0 k n p0 p1 p2 (Go.IntKind.i64.wrap (Go.IntKind.i64.wrap ((Go.IntKind.u64.wrap (Go.IntKind.i64.wrap (p3+p4))).fdiv ((2:Int) ^ 1))+(1:Int))) p4) else (f196.l0 k n p0 p1 p2 p3 (Go.IntKind.i64.wrap ((Go.IntKind.u64.wrap (Go.IntKind.i64.wrap (p3+p4))).fdiv ((2:Int) ^ 1)))))) else (bif decide (p3<p2) then (chk (decide ((0:Int)≤p3∧p3<(↑p0.length:Int))) (bif decide ((rd qS p0 p3).1≤p1) then (some (.int .i64 (Go.IntKind.i64.wrap (p3 - (1:Int))))) else (some (.int .i64 (Go.IntKind.i64.wrap (p3 - (1:Int))))))) else (some (.int .i64 (Go.IntKind.i64.wrap (p3 - (1:Int)))))):=by kernel_rfl
theorem f196.eq (k:Nat) (x0:List (Int×Int)) (x1:Int):evFn (f196.E k) 9 196 Tryz.f196 (encL [(.list qS),qI] (x0,x1)) =
 f196.l0 k k x0 x1 ((↑x0.length:Int)) 0 ((↑x0.length:Int)):=by kernel_rfl
theorem f196.inl (k:Nat):InlOk Tryz.prog (f196.E k):=(inl_cons (by kernel_rfl) (by kernel_rfl) (inl_cons (by kernel_rfl) (by kernel_rfl) inl_nil))
theorem f196.sums (k:Nat):SumsOk Tryz.prog (f196.E k):=sums_nil
noncomputable def f193.E (k:Nat):Env:=mkEnv tt [(77,S77),(174,S174)] [(200,Tryz.f200),(224,Tryz.f224),(225,Tryz.f225),(248,Tryz.f248)] [(193,3,[.kill (rg [(0,0),(2,5),(7,8),(12,27)]),.tidy])] [] k
noncomputable def f193.code:Go.Code:=cd Tryz.f193
noncomputable def f193.l0 (k n:Nat) (p0:Int) (p1:List ((Int×Int)×Int)) (p2:Int) (p3:Int) (p4:Int):Option V :=
 atPath (f193.E k) n ⟨(.u::(.int .i64 p0)::.u::.u::.u::.u::(.ptr 1572880 (0) (0))::.u::.u::(.ro (.pair qS qI) p1)::(.int .i64 p2)::(.int .i64 p3)::un 16),[],[(1572880,.box [(.int .i64 p4)])]⟩ 9 0 193 [.c 1,.c 1,.c 0,.c 1,.c 0] [] f193.code (finK tt Tryz.f193)
theorem f193.l0_eq (k n:Nat) (p0:Int) (p1:List ((Int×Int)×Int)) (p2:Int) (p3:Int) (p4:Int):f193.l0 k (n+1) p0 p1 p2 p3 p4 =
 bif decide (p3<p2) then (chk (decide ((0:Int)≤p3∧p3<(↑p1.length:Int))) (bif spanMay (rd (qS.pair qI) p1 p3).1 then (bif decide ((rd (qS.pair qI) p1 p3).1.1≤p0) then (bif decide (p0<(rd (qS.pair qI) p1 p3).1.2) then (bif !(sumTold [(rd (qS.pair qI) p1 p3).2]).2 then (some (.tup [(.int .i64 0),(.bool false)])) else (bif (sumTold [p4,(sumTold [(rd (qS.pair qI) p1 p3).2]).1]).2 then (bif !(sumTold [p4,(sumTold [(rd (qS.pair qI) p1 p3).2]).1]).2 then (some (.tup [(.int .i64 0),(.bool false)])) else (f193.l0 k n p0 p1 p2 (Go.IntKind.i64.wrap (p3+(1:Int))) ((sumTold [p4,(sumTold [(rd (qS.pair qI) p1 p3).2]).1]).1))) else (bif !(sumTold [p4,(sumTold [(rd (qS.pair qI) p1 p3).2]).1]).2 then (some (.tup [(.int .i64 0),(.bool false)])) else (f193.l0 k n p0 p1 p2 (Go.IntKind.i64.wrap (p3+(1:Int))) p4)))) else (f193.l0 k n p0 p1 p2 (Go.IntKind.i64.wrap (p3+(1:Int))) p4)) else (f193.l0 k n p0 p1 p2 (Go.IntKind.i64.wrap (p3+(1:Int))) p4)) else (f193.l0 k n p0 p1 p2 (Go.IntKind.i64.wrap (p3+(1:Int))) p4))) else (some (.tup [(.int .i64 p4),(.bool true)])):=by kernel_rfl
theorem f193.eq (k:Nat) (x0:List ((Int×Int)×Int)) (x1:Int):evFn (f193.E k) 9 193 Tryz.f193 (encL [(.list (.pair qS qI)),qI] (x0,x1)) =
 f193.l0 k k x1 x0 ((↑x0.length:Int)) 0 0:=by kernel_rfl
theorem f193.inl (k:Nat):InlOk Tryz.prog (f193.E k):=(inl_cons (by kernel_rfl) (by kernel_rfl) (inl_cons (by kernel_rfl) (by kernel_rfl) (inl_cons (by kernel_rfl) (by kernel_rfl) (inl_cons (by kernel_rfl) (by kernel_rfl) inl_nil))))
theorem f193.sums (k:Nat):SumsOk Tryz.prog (f193.E k):=(sums_cons ok77 (sums_cons ok174 sums_nil))
noncomputable def f148.E (k:Nat):Env:=mkEnv tt [] [] [] [] k
noncomputable def f148.code:Go.Code:=cd Tryz.f148
theorem f148.eq (k:Nat) (x0:Int×List (eL)) (x1:Int):evFn (f148.E k) 9 148 Tryz.f148 (encL [(.pair qI (.list qL)),qI] (x0,x1)) =
 bif decide (x1 ≥ (0:Int)) then (some (.bool (decide (x1<(↑(x0.2.length):Int))))) else (some (.bool false)):=by kernel_rfl
theorem f148.inl (k:Nat):InlOk Tryz.prog (f148.E k):=inl_nil
theorem f148.sums (k:Nat):SumsOk Tryz.prog (f148.E k):=sums_nil
noncomputable def f138.E (k:Nat):Env:=mkEnv tt [(120,S120)] [] [] [] k
noncomputable def f138.code:Go.Code:=cd Tryz.f138
theorem f138.eq (k:Nat) (x0:(Int×List (eL)) ×
 Int×Int×Int×List (eR)):evFn (f138.E k) 9 138 Tryz.f138 (encL [(.pair (.pair qI (.list qL)) (.pair qI (.pair qI (.pair qI (.list qR)))))] x0) =
 bif graphMay x0.1 then (bif decide (x0.2.1 ≥ (1:Int)) then (bif decide (x0.2.1≤(8:Int)) then (bif decide (x0.2.2.1 ≥ (0:Int)) then (bif decide (x0.2.2.1≤(4096:Int)) then (bif decide (x0.2.2.2.1 ≥ (1:Int)) then (bif decide (x0.2.2.2.1≤(1048577:Int)) then (some (.bool (decide ((↑(x0.2.2.2.2.length):Int)≤(8:Int))))) else (some (.bool false))) else (some (.bool false))) else (some (.bool false))) else (some (.bool false))) else (some (.bool false))) else (some (.bool false))) else (some (.bool false)):=by kernel_rfl
theorem f138.inl (k:Nat):InlOk Tryz.prog (f138.E k):=inl_nil
theorem f138.sums (k:Nat):SumsOk Tryz.prog (f138.E k):=(sums_cons ok120 sums_nil)
noncomputable def f188.E (k:Nat):Env:=mkEnv tt [(77,S77)] [] [(188,3,[.kill (rg [(0,1),(3,4),(6,9),(13,34)]),.tidy])] [] k
noncomputable def f188.code:Go.Code:=cd Tryz.f188
noncomputable def f188.l0 (k n:Nat) (p0:Int) (p1:List (eC)) (p2:Int) (p3:Int) (p4:Int) (p5:Int):Option V :=
 atPath (f188.E k) n ⟨(.u::.u::(.ptr 524304 (0) (0))::.u::.u::(.int .i64 p0)::.u::.u::.u::.u::(.ro qC p1)::(.int .i64 p2)::(.int .i64 p3)::un 22),[],[(524304,.box [(.int .i64 p4),(.int .i64 p5)])]⟩ 9 0 188 [.c 1,.c 1,.c 0,.c 1,.c 0] [] f188.code (finK tt Tryz.f188)
theorem f188.l0_eq (k n:Nat) (p0:Int) (p1:List (eC)) (p2:Int) (p3:Int) (p4:Int) (p5:Int):f188.l0 k (n+1) p0 p1 p2 p3 p4 p5 =
 bif decide (p3<p2) then (chk (decide ((0:Int)≤p3∧p3<(↑p1.length:Int))) (bif !spanMay (rd qC p1 p3).1 then (some (.bool false)) else (bif (rd qC p1 p3).1.1 != p0 then (some (.bool false)) else (f188.l0 k n ((rd qC p1 p3).1.2) p1 p2 (Go.IntKind.i64.wrap (p3+(1:Int))) p4 p5)))) else (some (.bool (p0==p5))):=by kernel_rfl
theorem f188.eq (k:Nat) (x0:Int×Int) (x1:List (eC)):evFn (f188.E k) 9 188 Tryz.f188 (encL [qS,(.list qC)] (x0,x1)) =
 f188.l0 k k x0.1 x1 ((↑x1.length:Int)) 0 x0.1 x0.2:=by kernel_rfl
theorem f188.inl (k:Nat):InlOk Tryz.prog (f188.E k):=inl_nil
theorem f188.sums (k:Nat):SumsOk Tryz.prog (f188.E k):=(sums_cons ok77 sums_nil)
noncomputable def f199.E (k:Nat):Env:=mkEnv tt [] [] [] [] k
noncomputable def f199.code:Go.Code:=cd Tryz.f199
theorem f199.eq (k:Nat) (x0:List (eL)):evFn (f199.E k) 9 199 Tryz.f199 (encL [(.list qL)] x0) =
 bif (↑x0.length:Int)==(0:Int) then (both (some (.own qL ([]))) (chk (decide (([]++x0).length*24≤140737488355328)) (some (.own qL ([]++x0))))) else (chk (decide (([]++x0).length*24≤140737488355328)) (some (.own qL ([]++x0)))):=by kernel_rfl
theorem f199.inl (k:Nat):InlOk Tryz.prog (f199.E k):=inl_nil
theorem f199.sums (k:Nat):SumsOk Tryz.prog (f199.E k):=sums_nil
noncomputable def f160.E (k:Nat):Env:=mkEnv tt [] [] [] [] k
noncomputable def f160.code:Go.Code:=cd Tryz.f160
theorem f160.eq (k:Nat) (x0:Int):evFn (f160.E k) 9 160 Tryz.f160 (encL [qI] x0) =
 bif decide (x0 ≥ (0:Int)) then (some (.bool (decide (x0<(4096:Int))))) else (some (.bool false)):=by kernel_rfl
theorem f160.inl (k:Nat):InlOk Tryz.prog (f160.E k):=inl_nil
theorem f160.sums (k:Nat):SumsOk Tryz.prog (f160.E k):=sums_nil
noncomputable def f45.E (k:Nat):Env:=mkEnv tt [] [] [] [] k
noncomputable def f45.code:Go.Code:=cd Tryz.f45
theorem f45.eq (k:Nat) (x0:(Int×Int)×Int×Int×eL):evFn (f45.E k) 9 45 Tryz.f45 (encL [(.pair qS (.pair qI (.pair qI qL)))] x0) =
 bif x0.2.1==(1:Int) then (some (.bool true)) else (some (.bool (x0.2.1==(2:Int)))):=by kernel_rfl
theorem f45.inl (k:Nat):InlOk Tryz.prog (f45.E k):=inl_nil
theorem f45.sums (k:Nat):SumsOk Tryz.prog (f45.E k):=sums_nil
noncomputable def f144.E (k:Nat):Env:=mkEnv tt [(77,S77)] [] [] [] k
noncomputable def f144.code:Go.Code:=cd Tryz.f144
theorem f144.eq (k:Nat) (x0:(Int×List (eL)) ×
 Int×Int×Int×List (eR)) (x1:(Int×Int)×Int×Int×eL):evFn (f144.E k) 9 144 Tryz.f144 (encL [(.pair (.pair qI (.list qL)) (.pair qI (.pair qI (.pair qI (.list qR))))),(.pair qS (.pair qI (.pair qI qL)))] (x0,x1)) =
 bif !spanMay x1.1 then (some (.agg [(.bool true),(.int .i64 3)])) else (some (.agg [(.bool (decide (x1.1.1<x0.2.2.1))),(.int .i64 3)])):=by kernel_rfl
theorem f144.inl (k:Nat):InlOk Tryz.prog (f144.E k):=inl_nil
theorem f144.sums (k:Nat):SumsOk Tryz.prog (f144.E k):=(sums_cons ok77 sums_nil)
noncomputable def f145.E (k:Nat):Env:=mkEnv tt [] [] [] [] k
noncomputable def f145.code:Go.Code:=cd Tryz.f145
theorem f145.eq (k:Nat) (x0:(Int×Int)×Int×Int×eL):evFn (f145.E k) 9 145 Tryz.f145 (encL [(.pair qS (.pair qI (.pair qI qL)))] x0) =
 some (.agg [(.bool (x0.2.2.2.2.2==(0:Int))),(.int .i64 4)]):=by kernel_rfl
theorem f145.inl (k:Nat):InlOk Tryz.prog (f145.E k):=inl_nil
theorem f145.sums (k:Nat):SumsOk Tryz.prog (f145.E k):=sums_nil
noncomputable def f84.E (k:Nat):Env:=mkEnv tt [] [] [(84,2,[.kill (rg [(0,4),(8,15)]),.tidy])] [] k
noncomputable def f84.code:Go.Code:=cd Tryz.f84
noncomputable def f84.l0 (k n:Nat) (p0:List (Bool×Int)) (p1:Int) (p2:Int):Option V :=
 atPath (f84.E k) n ⟨(.u::.u::.u::.u::.u::(.ro (.pair .bool qI) p0)::(.int .i64 p1)::(.int .i64 p2)::un 8),[],[]⟩ 9 0 84 [.c 1,.c 0,.c 1,.c 0] [] f84.code (finK tt Tryz.f84)
theorem f84.l0_eq (k n:Nat) (p0:List (Bool×Int)) (p1:Int) (p2:Int):f84.l0 k (n+1) p0 p1 p2 =
 bif decide (p2<p1) then (chk (decide ((0:Int)≤p2∧p2<(↑p0.length:Int))) (bif (rd (Ty.bool.pair qI) p0 p2).1 then (some (.int .i64 ((rd (Ty.bool.pair qI) p0 p2).2))) else (f84.l0 k n p0 p1 (Go.IntKind.i64.wrap (p2+(1:Int)))))) else (some (.int .i64 0)):=by kernel_rfl
theorem f84.eq (k:Nat) (x0:List (Bool×Int)):evFn (f84.E k) 9 84 Tryz.f84 (encL [(.list (.pair .bool qI))] x0) =
 f84.l0 k k x0 ((↑x0.length:Int)) 0:=by kernel_rfl
theorem f84.inl (k:Nat):InlOk Tryz.prog (f84.E k):=inl_nil
theorem f84.sums (k:Nat):SumsOk Tryz.prog (f84.E k):=sums_nil
noncomputable def f173.E (k:Nat):Env:=mkEnv tt [] [] [(173,9,[.kill (rg [(2,4),(7,70)]),.tidy]),(173,4,[.kill (rg [(2,4),(6,70)]),.tidy])] [] k
noncomputable def f173.code:Go.Code:=cd Tryz.f173
noncomputable def f173.l0 (k n:Nat) (p0:List (eP)) (p1:List (eP)) (p2:Int):Option V :=
 atPath (f173.E k) n ⟨((.ro qP p0)::(.ro qP p1)::.u::.u::.u::(.int .i64 p2)::un 65),[],[]⟩ 9 0 173 [.c 1,.c 1,.c 0,.c 1,.c 0] [] f173.code (finK tt Tryz.f173)
noncomputable def f173.l1 (k n m0:Nat) (p0:List (eP)) (p1:List (eP)) (p2:Int) (p3:Int):Option V :=
 atPath (f173.E k) n ⟨((.ro qP p0)::(.ro qP p1)::.u::.u::.u::(.int .i64 p2)::(.int .i64 p3)::un 64),[],[]⟩ 9 0 173 [.c 1,.c 1,.c 0,.c 1,.c 0,.c 0,.c 1,.c 0,.c 0,.c 1,.c 1,.c 0] [m0] f173.code (finK tt Tryz.f173)
theorem f173.l0_eq (k n:Nat) (p0:List (eP)) (p1:List (eP)) (p2:Int):f173.l0 k (n+1) p0 p1 p2 =
 bif decide (p2<(↑p0.length:Int)) then (chk (decide ((0:Int)≤p2∧p2<(↑p0.length:Int))) (chk (decide ((0:Int)≤p2∧p2<(↑p1.length:Int))) (bif (rd qP p0 p2).1 != (rd qP p1 p2).1 then (some (.bool false)) else (chk (decide ((0:Int)≤p2∧p2<(↑p0.length:Int))) (chk (decide ((0:Int)≤p2∧p2<(↑p1.length:Int))) (bif (↑(List.length (rd qP p0 p2).2):Int) != (↑(List.length (rd qP p1 p2).2):Int) then (some (.bool false)) else (f173.l1 k k n p0 p1 p2 0))))))) else (some (.bool true)):=by kernel_rfl
theorem f173.l1_eq (k n m0:Nat) (p0:List (eP)) (p1:List (eP)) (p2:Int) (p3:Int):f173.l1 k (n+1) m0 p0 p1 p2 p3 =
 chk (decide ((0:Int)≤p2∧p2<(↑p0.length:Int))) (bif decide (p3<(↑(List.length (rd qP p0 p2).2):Int)) then (chk (decide ((0:Int)≤p2∧p2<(↑p0.length:Int))) (chk (decide ((0:Int)≤p3∧p3<(↑(List.length (rd qP p0 p2).2):Int))) (chk (decide ((0:Int)≤p2∧p2<(↑p1.length:Int))) (chk (decide ((0:Int)≤p3∧p3<(↑(List.length (rd qP p1 p2).2):Int))) (bif rd qI (rd qP p0 p2).2 p3 != rd qI (rd qP p1 p2).2 p3 then (some (.bool false)) else (f173.l1 k n m0 p0 p1 p2 (Go.IntKind.i64.wrap (p3+(1:Int))))))))) else (f173.l0 k m0 p0 p1 (Go.IntKind.i64.wrap (p2+(1:Int))))):=by kernel_rfl
theorem f173.eq (k:Nat) (x0:List (eP)) (x1:List (eP)):evFn (f173.E k) 9 173 Tryz.f173 (encL [(.list qP),(.list qP)] (x0,x1)) =
 bif (↑x0.length:Int) != (↑x1.length:Int) then (some (.bool false)) else (f173.l0 k k x0 x1 0):=by kernel_rfl
theorem f173.inl (k:Nat):InlOk Tryz.prog (f173.E k):=inl_nil
theorem f173.sums (k:Nat):SumsOk Tryz.prog (f173.E k):=sums_nil
noncomputable def f94.E (k:Nat):Env:=mkEnv tt [] [] [] [] k
noncomputable def f94.code:Go.Code:=cd Tryz.f94
theorem f94.eq (k:Nat) (x0:Int):evFn (f94.E k) 9 94 Tryz.f94 (encL [qI] x0) =
 some (.agg [(.int .i64 0),(.int .i64 0),(.int .i64 0),(.own qI ([])),(.int .i64 1),(.int .i64 x0),(.int .i64 0),(.int .i64 0),(.int .i64 0),(.own qC ([]))]):=by kernel_rfl
theorem f94.inl (k:Nat):InlOk Tryz.prog (f94.E k):=inl_nil
theorem f94.sums (k:Nat):SumsOk Tryz.prog (f94.E k):=sums_nil
noncomputable def f201.E (k:Nat):Env:=mkEnv tt [] [(158,Tryz.f158),(234,Tryz.f234)] [(158,2,[.kill (rg [(2,6),(9,18)]),.tidy])] [(158,512,(rg [(0,7)]))] k
noncomputable def f201.code:Go.Code:=cd Tryz.f201
noncomputable def f201.l0 (k n:Nat) (p0:List (eR)) (p1:Int) (p2:Int) (p3:Int):Option V :=
 atPath (f201.E k) n ⟨((.ro qR p0)::(.fn 234 [(.ptr 192 (0) (0))])::.u::.u::.u::.u::.u::(.int .i64 p1)::(.int .i64 p2)::un 10),[(un 9)],[(192,.box [(.int .i64 p3)])]⟩ 9 0 201 [.c 1,.c 0,.call 3 158,.c 1,.c 0,.c 1,.c 0] [] f201.code (finK tt Tryz.f201)
theorem f201.l0_eq (k n:Nat) (p0:List (eR)) (p1:Int) (p2:Int) (p3:Int):f201.l0 k (n+1) p0 p1 p2 p3 =
 bif decide (p2<p1) then (chk (decide ((0:Int)≤p2∧p2<(↑p0.length:Int))) (bif (rd qR p0 p2).2.1==p3 then (some (.int .i64 p2)) else (f201.l0 k n p0 p1 (Go.IntKind.i64.wrap (p2+(1:Int))) p3))) else (some (.int .i64 ((-1:Int)))):=by kernel_rfl
theorem f201.eq (k:Nat) (x0:(Int×List (eL)) ×
 Int×Int×Int×List (eR)) (x1:Int):evFn (f201.E k) 9 201 Tryz.f201 (encL [(.pair (.pair qI (.list qL)) (.pair qI (.pair qI (.pair qI (.list qR))))),qI] (x0,x1)) =
 f201.l0 k k x0.2.2.2.2 ((↑(x0.2.2.2.2.length):Int)) 0 x1:=by kernel_rfl
theorem f201.inl (k:Nat):InlOk Tryz.prog (f201.E k):=(inl_cons (by kernel_rfl) (by kernel_rfl) (inl_cons (by kernel_rfl) (by kernel_rfl) inl_nil))
theorem f201.sums (k:Nat):SumsOk Tryz.prog (f201.E k):=sums_nil
end
section
noncomputable def S173:Summ:=summ [.list tP,.list tP] Bool (fun (d:List Pt×List Pt)=>chk (smallP d.1) (some (sameB d.1 d.2))) .bool
theorem f173.l1_is (k m0:Nat) (a b:List Pt) (i:Nat) (x y:Pt) (hx:a[i]? = some x) (hy:b[i]? = some y) (hlen:x.2.length=y.2.length) (hs:x.2.length<4611686018427387904) (ha:a.length<4611686018427387904):∀ (n j:Nat),j≤x.2.length→x.2.length<n+j →
  f173.l1 k n m0 a b (i:Int) (j:Int)=bif x.2.drop j==y.2.drop j then f173.l0 k m0 a b ((i+1:Nat):Int) else some (.bool false)
 |0,j,h,h'=>by omega
 |n+1,j,h,h'=>by
  have:=idx_lt hx
  rw [f173.l1_eq,idx_in hx,kT,rd_some (t:=tP) hx,rd_some (t:=tP) hy,kT,idx_in hy,kT]
  by_cases hlt:j<x.2.length
  ·have hxj:=gE hlt
   have hlt2:j<y.2.length:=by omega
   have hyj:=gE hlt2
   rw [idx_lt' hxj,cT,idx_in hxj,kT,idx_in hyj,kT,rd_some (t:=tI) hxj,rd_some (t:=tI) hyj,wrap_succ (i:=j) (by omega),List.drop_eq_getElem_cons hlt,List.drop_eq_getElem_cons hlt2]
   have e:((x.2[j]::x.2.drop (j+1):List Int)==y.2[j]::y.2.drop (j+1))=(x.2[j]==y.2[j]&&x.2.drop (j+1)==y.2.drop (j+1)):=rfl
   rw [e]
   cases hc:x.2[j]==y.2[j] with
   |false=>rw [show (x.2[j] != y.2[j])=true by simp only [bne];rw [hc];rfl,cT,fA,cF]
   |true =>
    rw [show (x.2[j] != y.2[j])=false by simp only [bne];rw [hc];rfl,cF,tA]
    exact f173.l1_is k m0 a b i x y hx hy hlen hs ha n (j+1) (by omega) (by omega)
  ·obtain rfl:j=x.2.length:=by omega
   rw [end_lt,cF,wrap_succ (by omega),List.drop_length,hlen,List.drop_length]
   rfl
theorem f173.l0_is (k:Nat) (a b:List Pt) (hl:a.length=b.length) (hs:smallP a=true) (hk:linksN a<k):∀ (n i:Nat),i≤a.length→a.length<n+i→f173.l0 k n a b (i:Int)=some (.bool (a.drop i==b.drop i))
 |0,i,h,h'=>by omega
 |n+1,i,h,h'=>by
  have hs':=hs
  simp only [smallP,bA,dE] at hs'
  by_cases hlt:i<a.length
  ·have hx:=gE hlt
   have hlt2:i<b.length:=by omega
   have hy:=gE hlt2
   have h3:a[i].2.length<4611686018427387904:=by simpa using List.all_eq_true.1 hs'.2 a[i] (List.getElem_mem hlt)
   have h4:=linksN_le (List.getElem_mem hlt)
   rw [f173.l0_eq,idx_lt' hx,cT,idx_in hx,kT,idx_in hy,kT,rd_some (t:=tP) hx,rd_some (t:=tP) hy,kT,kT,List.drop_eq_getElem_cons hlt,List.drop_eq_getElem_cons hlt2]
   have e:((a[i]::a.drop (i+1):List Pt)==b[i]::b.drop (i+1))=((a[i].1==b[i].1&&a[i].2==b[i].2)&&a.drop (i+1)==b.drop (i+1)):=rfl
   rw [e]
   cases hc:a[i].1==b[i].1 with
   |false=>rw [show (a[i].1 != b[i].1)=true by simp only [bne];rw [hc];rfl,cT,fA,fA]
   |true =>
    rw [show (a[i].1 != b[i].1)=false by simp only [bne];rw [hc];rfl,cF,tA]
    by_cases hlen:a[i].2.length=b[i].2.length
    ·rw [show ((↑(List.length a[i].2):Int) != (↑(List.length b[i].2):Int))=false by rw [hlen,bne_self_eq_false],cF]
     refine (f173.l1_is k n a b i a[i] b[i] hx hy hlen h3 hs'.1 k 0 (by omega) (by omega)).trans ?_
     rw [List.drop_zero,List.drop_zero]
     cases a[i].2==b[i].2 with
     |false=>rw [cF,fA]
     |true =>
      rw [cT,tA]
      exact f173.l0_is k a b hl hs hk n (i+1) (by omega) (by omega)
    ·rw [show ((↑(List.length a[i].2):Int) != (↑(List.length b[i].2):Int))=true from bne_iff_ne.2 (by omega),cT]
     rw [show (a[i].2==b[i].2)=false from beq_eq_false_iff_ne.2 fun hh=>hlen (by rw [hh]),fA]
  ·obtain rfl:i=a.length:=by omega
   rw [f173.l0_eq,end_lt,cF,List.drop_length,hl,List.drop_length]
   rfl
theorem ok173:SumOk Tryz.prog 173 S173 :=
 sumq f173.E (fn:=Tryz.f173) (code:=f173.code) f173.sums f173.inl fun (d:List Pt×List Pt) x hx=>by
  obtain ⟨a,b⟩:=d
  obtain ⟨hb,hx⟩:=chk_some hx
  obtain rfl:=oJ hx
  refine ⟨a.length+linksN a+1,(f173.eq _ a b).trans ?_⟩
  by_cases h:a.length=b.length
  ·rw [show ((a.length:Int) != (b.length:Int))=false by simp [h],cF]
   refine (f173.l0_is _ a b h hb (by omega) _ 0 (by omega) (by omega)).trans ?_
   rw [List.drop_zero,List.drop_zero]
   rfl
  ·rw [show ((a.length:Int) != (b.length:Int))=true from bne_iff_ne.2 (by omega)]
   rw [sameB_ne fun e=>h (by rw [show a=b from e]),cT]
end
section
abbrev Wt:=(Int×Int)×Int
@[reducible] def tW:Ty:=.pair tSp tI
def weightMay (w:Wt):Bool:=spanMay w.1&&rateB w.2
noncomputable def S190:Summ:=summ [tW] Bool (fun (w:Wt)=>some (weightMay w)) .bool
theorem ok190:SumOk Tryz.prog 190 S190 :=
 sumq f190.E (fn:=Tryz.f190) (code:=f190.code) f190.sums f190.inl fun (d:Wt) x hx=>by
  obtain rfl:=oJ hx
  refine ⟨0,(f190.eq 0 d).trans ?_⟩
  unfold weightMay
  cases spanMay d.1 <;> rfl
def hasAt (s:Int×Int) (t:Int):Bool:=spanMay s&&(decide (s.1≤t)&&decide (t<s.2))
theorem hasAt_tree (s:Int×Int) (t:Int):(bif spanMay s then (bif decide (s.fst≤t) then (some (V.bool (decide (t<s.snd)))) else (some (.bool (false)))) else (some (.bool (false))))=some (.bool (hasAt s t)):=by
 unfold hasAt
 cases spanMay s <;> cases decide (s.1≤t) <;> rfl
theorem hasAt_iff {s:Int×Int} {t:Int}:hasAt s t=true↔spanMay s=true∧s.1≤t∧t<s.2:=by
 unfold hasAt
 simp only [bA,dE]
noncomputable def S200:Summ:=summ [tSp,tI] Bool (fun (d:(Int×Int)×Int)=>some (hasAt d.1 d.2)) .bool
theorem ok200:SumOk Tryz.prog 200 S200 :=
 sumq f200.E (fn:=Tryz.f200) (code:=f200.code) f200.sums f200.inl fun (d:(Int×Int)×Int) x hx=>by
  obtain rfl:=oJ hx
  exact ⟨0,(f200.eq 0 d.1 d.2).trans (hasAt_tree _ _)⟩
def runOk (p:Option (Int×Int)) (r:Int×Int):Bool:=decide (r.1<4096)&&(rateB r.2&&(match p with
 |none=>true
 |some q=>decide (q.1<r.1)&&r.2 != q.2))
def runsOk:Option (Int×Int)→List (Int×Int)→Bool
 |_,[]=>true
 |p,r::rs=>runOk p r&&runsOk (some r) rs
def runsMay (rs:List (Int×Int)):Bool:=match rs with
 | []=>false
 |r::rs=>r.1==0&&runsOk none (r::rs)
def aheadR (rs:List (Int×Int)) (i:Nat):Option (Int×Int):=if i=0 then none else rs[i - 1]?
theorem f195.l0_is (k:Nat) (rs:List (Int×Int)):∀ (n i:Nat),i≤rs.length→rs.length<4611686018427387904→rs.length<n+i→f195.l0 k n rs rs.length i=some (.bool (runsOk (aheadR rs i) (rs.drop i)))
 |0,i,h,_,h'=>by omega
 |n+1,i,h,hl,h'=>by
  by_cases hlt:i<rs.length
  ·have hx:=gE hlt
   have ih:=f195.l0_is k rs n (i+1) (by omega) hl (by omega)
   have ha:aheadR rs (i+1)=some rs[i]:=by unfold aheadR;rw [if_neg (by omega)];exact hx
   rw [ha] at ih
   rw [f195.l0_eq,idx_lt' hx,idx_in hx,rd_some (t:=tSp) hx,wrap_succ (by omega),cT,kT,List.drop_eq_getElem_cons hlt,ih]
   simp only [runsOk,runOk]
   by_cases h1:rs[i].1<4096
   ·rw [dF (by omega:¬ rs[i].1 ≥ 4096),cF,dT h1,tA]
    cases rateB rs[i].2 with
    |false=>rw [nF,cT,fA,fA]
    |true =>
     rw [nT,cF,tA]
     by_cases h0:i=0
     ·subst h0
      rw [show decide (((0:Nat):Int)>0)=false by simp,cF]
      rfl
     ·have hy:rs[i - 1]? = some rs[i - 1]:=gE (by omega)
      have ha2:aheadR rs i=some rs[i - 1]:=by unfold aheadR;rw [if_neg h0];exact hy
      rw [ha2,show decide ((i:Int)>0)=true by simp;omega,cT,wrap64 (n:=(i:Int) - 1) (by omega),show ((i:Int) - 1)=((i - 1:Nat):Int) by omega,idx_in hy,kT,rd_some (t:=tSp) hy]
      simp only
      by_cases hc:rs[i].1≤rs[i - 1].1
      ·rw [dT hc,cT,dF (by omega),fA,fA]
      ·rw [dF hc,cF,kT,dT (by omega),tA]
       cases hb:rs[i].2==rs[i - 1].2 with
       |true=>rw [cT,show (rs[i].2 != rs[i - 1].2)=false by simp only [bne];rw [hb];rfl,fA]
       |false=>rw [cF,show (rs[i].2 != rs[i - 1].2)=true by simp only [bne];rw [hb];rfl,tA]
   ·rw [dT (by omega:rs[i].1 ≥ 4096),cT,dF h1,fA,fA]
  ·obtain rfl:i=rs.length:=by omega
   rw [f195.l0_eq,end_lt,cF,List.drop_length]
   rfl
noncomputable def S195:Summ:=summ [.list tSp] Bool (fun (rs:List (Int×Int))=>chk (decide (rs.length<4611686018427387904)) (some (runsMay rs))) .bool
theorem ok195:SumOk Tryz.prog 195 S195 :=
 sumq f195.E (fn:=Tryz.f195) (code:=f195.code) f195.sums f195.inl fun (d:List (Int×Int)) x hx=>by
  obtain ⟨hb,hx⟩:=chk_some hx
  obtain rfl:=oJ hx
  have hb:d.length<4611686018427387904:=by simpa using hb
  refine ⟨d.length+1,(f195.eq _ d).trans ?_⟩
  cases d with
  |nil=>rfl
  |cons r rs =>
   have hx:(r::rs)[0]? = some r:=rfl
   have e0:rd tSp (r::rs) 0=r:=rd_some (t:=tSp) (i:=0) hx
   rw [show (((r::rs).length:Int)==0)=false by simp;omega,cF,show decide ((0:Int)≤0∧(0:Int)<((r::rs).length:Int))=true from dT (by rw [List.length_cons];omega),kT,e0]
   show _=some (V.bool (r.1==0&&runsOk none (r::rs)))
   cases hz:r.1==0 with
   |false=>rw [show (r.1 != 0)=true by simp only [bne];rw [hz];rfl,cT,fA]
   |true =>
    rw [show (r.1 != 0)=false by simp only [bne];rw [hz];rfl,cF,tA]
    exact (f195.l0_is _ (r::rs) _ 0 (by omega) hb (by omega)).trans rfl
theorem runsOk_chain:∀ (rs:List (Int×Int)) (p:Option (Int×Int)),runsOk p rs=true→(∀ q,p=some q→∀ r∈rs,q.1<r.1)∧rs.Pairwise (fun a b=>a.1<b.1)∧∀ r∈rs,r.1<4096∧rateB r.2=true
 | [],p,_=>⟨fun _ _ r hr=>(List.not_mem_nil hr).elim,List.Pairwise.nil,fun r hr=>(List.not_mem_nil hr).elim⟩
 |r::rs,p,h=>by
  simp only [runsOk,runOk,bA,dE] at h
  obtain ⟨⟨h1,h2,h3⟩,h4⟩:=h
  obtain ⟨i1,i2,i3⟩:=runsOk_chain rs (some r) h4
  have hq:∀ q,p=some q→q.1<r.1:=by
   rintro q rfl
   simp only [bA,dE] at h3
   exact h3.1
  refine ⟨fun q hp r' hr=>?_,List.pairwise_cons.2 ⟨fun b hb=>i1 r rfl b hb,i2⟩,fun r' hr=>?_⟩
  ·rcases List.mem_cons.1 hr with rfl|hr
   ·exact hq q hp
   ·have:=i1 r rfl r' hr
    have:=hq q hp
    omega
  ·rcases List.mem_cons.1 hr with rfl|hr
   ·exact ⟨h1,h2⟩
   ·exact i3 r' hr
theorem rising_idx:∀ (rs:List (Int×Int)) (a:Int),rs.Pairwise (fun a b=>a.1<b.1)→(∀ r∈rs,a≤r.1)→∀ (i:Nat) (h:i<rs.length),a+i≤rs[i].1
 | [],a,_,_,i,h=>by simp at h
 |r::rs,a,hp,ha,i,h=>by
  rw [List.pairwise_cons] at hp
  cases i with
  |zero=>simpa using ha r (by simp)
  |succ i =>
   have:=rising_idx rs (a+1) hp.2 (fun b hb=>by have:=hp.1 b hb;have:=ha r (by simp);omega) i (by simpa using h)
   simp only [List.getElem_cons_succ]
   omega
theorem runs_small {rs:List (Int×Int)} (h:runsMay rs=true):rs.length≤4096∧rs.Pairwise (fun a b=>a.1<b.1)∧(∀ r∈rs,0≤r.1∧r.1<4096∧rateB r.2=true)∧∃ r rs',rs=r::rs'∧r.1=0:=by
 cases rs with
 |nil=>cases h
 |cons r rs =>
  simp only [runsMay,bA,beq_iff_eq] at h
  obtain ⟨_,h2,h3⟩:=runsOk_chain _ _ h.2
  have h0:∀ q∈r::rs,(0:Int)≤q.1:=by
   intro q hq
   rcases List.mem_cons.1 hq with rfl|hq
   ·omega
   ·rw [List.pairwise_cons] at h2
    have:=h2.1 q hq
    omega
  refine ⟨?_,h2,fun q hq=>⟨h0 q hq,h3 q hq⟩,r,rs,rfl,h.1⟩
  rcases Nat.lt_or_ge 4096 (r::rs).length with h4|h4
  ·have h5:=rising_idx (r::rs) 0 h2 h0 4096 h4
   have h6:=(h3 _ (List.getElem_mem h4)).1
   omega
  ·exact h4
def begun (rs:List (Int×Int)) (t:Int):Nat:=rs.countP fun r=>decide (r.1≤t)
theorem begun_at:∀ {rs:List (Int×Int)} {t:Int},rs.Pairwise (fun a b=>a.1<b.1)→∀ {i:Nat},i≤rs.length→(∀ j (h:j<rs.length),j<i→rs[j].1≤t)→(∀ j (h:j<rs.length),i≤j→t<rs[j].1)→begun rs t=i
 | [],t,_,i,hi,_,_=>by simp only [List.length_nil] at hi;unfold begun;simp;omega
 |r::rs,t,hp,i,hi,h1,h2=>by
  rw [List.pairwise_cons] at hp
  unfold begun
  rw [List.countP_cons]
  cases i with
  |zero =>
   have hr:=h2 0 (by simp) (by omega)
   have:=begun_at hp.2 (t:=t) (i:=0) (by omega) (fun j _ hj=>by omega) (fun j hj _=>by have:=h2 (j+1) (by simpa using hj) (by omega);rwa [List.getElem_cons_succ] at this)
   unfold begun at this
   rw [this,dF (by simpa using hr)]
   rfl
  |succ i =>
   have hr:=h1 0 (by simp) (by omega)
   have:=begun_at hp.2 (t:=t) (i:=i) (by simpa using hi) (fun j hj hji=>by have:=h1 (j+1) (by simpa using hj) (by omega);rwa [List.getElem_cons_succ] at this) (fun j hj hji=>by have:=h2 (j+1) (by simpa using hj) (by omega);rwa [List.getElem_cons_succ] at this)
   unfold begun at this
   rw [this,dT (by simpa using hr)]
   rfl
theorem wrapU {n:Int} (h:0≤n∧n≤9223372036854775807):Go.IntKind.u64.wrap n=n:=by
 rw [Go.IntKind.wrap_u64];omega
theorem f196.l0_is (k:Nat) (rs:List (Int×Int)) (t:Int) (hl:rs.length≤4096) (hp:rs.Pairwise (fun a b=>a.1<b.1)):∀ (n i j:Nat),i≤j→j≤rs.length→j - i<n →
  (∀ q (h:q<rs.length),q<i→rs[q].1≤t)→(∀ q (h:q<rs.length),j≤q→t<rs[q].1)→f196.l0 k n rs t rs.length i j=some (.int .i64 ((begun rs t:Int) - 1))
 |0,i,j,_,_,h,_,_=>by omega
 |n+1,i,j,hij,hj,hn,h1,h2=>by
  have hmono:∀ a b (ha:a<rs.length) (hb:b<rs.length),a<b→rs[a].1<rs[b].1:=fun a b ha hb hab=>List.pairwise_iff_getElem.1 hp a b ha hb hab
  rw [f196.l0_eq]
  by_cases hlt:i<j
  ·have hw:Go.IntKind.i64.wrap ((Go.IntKind.u64.wrap (Go.IntKind.i64.wrap ((i:Int)+(j:Int)))).fdiv (2 ^ (1:Nat)))=(((i+j) / 2:Nat):Int):=by
    rw [wrap64 (n:=(i:Int)+(j:Int)) (by omega)]
    have:Go.IntKind.u64.wrap ((i:Int)+(j:Int))=(i:Int)+(j:Int):=wrapU (by omega)
    rw [this,show (2:Int) ^ (1:Nat)=2 from rfl,Int.fdiv_eq_ediv_of_nonneg _ (by omega),wrap64 (by omega)]
    omega
   have hm:(i+j) / 2<rs.length:=by omega
   have hx:=gE hm
   rw [dT (by omega:(i:Int)<(j:Int)),cT,hw,idx_in hx,kT,rd_some (t:=tSp) hx]
   by_cases hc:rs[(i+j) / 2].1≤t
   ·rw [dT hc,cT,wrap_succ (by omega)]
    exact f196.l0_is k rs t hl hp n _ j (by omega) hj (by omega) (fun q hq hqi=>by
     rcases Nat.lt_or_ge q ((i+j) / 2) with h3|h3
     ·have:=hmono q _ hq hm h3
      omega
     ·have:q=(i+j) / 2:=by omega
      subst this
      exact hc) h2
   ·rw [dF hc,cF]
    exact f196.l0_is k rs t hl hp n i _ (by omega) (by omega) (by omega) h1 (fun q hq hqi=>by
     rcases Nat.lt_or_ge ((i+j) / 2) q with h3|h3
     ·have:=hmono _ q hm hq h3
      omega
     ·have:q=(i+j) / 2:=by omega
      subst this
      omega)
  ·obtain rfl:i=j:=by omega
   have hb:=begun_at hp hj h1 h2
   rw [dF (by omega:¬ (i:Int)<(i:Int)),cF,hb,wrap64 (n:=(i:Int) - 1) (by omega)]
   by_cases h3:i<rs.length
   ·have hx:=gE h3
    rw [idx_lt' hx,cT,idx_in hx,kT]
    cases decide ((rd (Ty.pair (Ty.int Go.IntKind.i64) (Ty.int Go.IntKind.i64)) rs (i:Int)).fst≤t) <;> rfl
   ·rw [dF (by omega),cF]
noncomputable def S196:Summ:=summ [.list tSp,tI] Int (fun (d:List (Int×Int)×Int)=>chk (runsMay d.1) (some ((begun d.1 d.2:Int) - 1))) (.int .i64)
theorem ok196:SumOk Tryz.prog 196 S196 :=
 sumq f196.E (fn:=Tryz.f196) (code:=f196.code) f196.sums f196.inl fun (d:List (Int×Int)×Int) x hx=>by
  obtain ⟨hb,hx⟩:=chk_some hx
  obtain rfl:=oJ hx
  obtain ⟨h1,h2,_⟩:=runs_small hb
  exact ⟨d.1.length+1,(f196.eq _ d.1 d.2).trans (f196.l0_is _ d.1 d.2 h1 h2 _ 0 d.1.length (by omega) (by omega) (by omega) (fun q _ hq=>by omega) (fun q hq hq2=>by omega))⟩
def loadsAt (ws:List Wt) (t:Int):List Int:=(ws.filter fun w=>hasAt w.1 t).map (·.2)
def sumAt (ws:List Wt) (t:Int):Int×Bool:=sumTold (loadsAt ws t)
theorem sumTold_one (x:Int):sumTold [x]=bif rateB x then (x,true) else (0,false):=by
 unfold sumTold rateB
 simp only [sumUp]
 by_cases h:0≤x∧x≤maxRate
 ·rw [dT (show 0≤x∧x≤maxRate - 0 by have:=h.2;exact ⟨h.1,by omega⟩),dT h]
  simp
 ·rw [dF (show ¬ (0≤x∧x≤maxRate - 0) from fun hh=>h ⟨hh.1,by have:=hh.2;omega⟩),dF h]
  rfl
theorem sumTold_two {a x:Int} (ha:0≤a∧a≤maxRate):sumTold [a,x]=bif decide (0≤x∧x≤maxRate - a) then (a+x,true) else (0,false):=by
 unfold sumTold
 simp only [sumUp]
 rw [dT (show 0≤a∧a≤maxRate - 0 from ⟨ha.1,by have:=ha.2;omega⟩),cond_true,Int.zero_add]
 cases decide (0≤x∧x≤maxRate - a) <;> rfl
theorem f193.l0_is (k:Nat) (t:Int) (ws:List Wt) (hl:ws.length<4611686018427387904):∀ (n i:Nat) (a:Int),i≤ws.length→ws.length<n+i→0≤a→a≤maxRate →
  f193.l0 k n t ws ws.length i a=some (resIB (match sumUp a (loadsAt (ws.drop i) t) with|some s=>(s,true)|none=>(0,false)))
 |0,i,_,h,h',_,_=>by omega
 |n+1,i,a,h,h',h0,h1=>by
  by_cases hlt:i<ws.length
  ·have hx:=gE hlt
   have ih:=fun a h0 h1=>f193.l0_is k t ws hl n (i+1) a (by omega) (by omega) h0 h1
   rw [f193.l0_eq,idx_lt' hx,idx_in hx,rd_some (t:=tW) hx,wrap_succ (by omega),List.drop_eq_getElem_cons hlt,cT,kT]
   have hskip:hasAt ws[i].1 t=false→loadsAt (ws[i]::ws.drop (i+1)) t=loadsAt (ws.drop (i+1)) t:=fun hh=>by
    unfold loadsAt
    rw [List.filter_cons,hh]
    rfl
   have htake:hasAt ws[i].1 t=true→loadsAt (ws[i]::ws.drop (i+1)) t=ws[i].2::loadsAt (ws.drop (i+1)) t:=fun hh=>by
    unfold loadsAt
    rw [List.filter_cons,hh]
    rfl
   cases hs:spanMay ws[i].1 with
   |false=>rw [cF,ih a h0 h1,hskip (by unfold hasAt;rw [hs];rfl)]
   |true =>
    rw [cT]
    by_cases hf:ws[i].1.1≤t
    ·rw [dT hf,cT]
     by_cases ht:t<ws[i].1.2
     ·rw [dT ht,cT,htake (by unfold hasAt;rw [hs,dT hf,dT ht];rfl)]
      generalize ws[i].2=x at *
      rw [sumTold_one]
      simp only [sumUp]
      cases hr:rateB x with
      |false =>
       have hr':¬ (0≤x∧x≤maxRate):=of_decide_eq_false hr
       rw [dF (fun hh=>hr' ⟨hh.1,by have:=hh.2;omega⟩),cF,cF]
       rfl
      |true =>
       have hr':0≤x∧x≤maxRate:=oD hr
       rw [cT]
       dsimp only
       rw [nT,cF,sumTold_two ⟨h0,h1⟩]
       cases hd:decide (0≤x∧x≤maxRate - a) with
       |false =>
        rw [cF]
        dsimp only
        rw [cF,nF,cT,cF]
       |true =>
        have hd':0≤x∧x≤maxRate - a:=oD hd
        rw [cT]
        dsimp only
        rw [cT,nT,cF,ih (a+x) (by omega) (by have:=hd'.2;omega),cT]
     ·rw [dF ht,cF,ih a h0 h1,hskip (by unfold hasAt;rw [dF ht];simp)]
    ·rw [dF hf,cF,ih a h0 h1,hskip (by unfold hasAt;rw [dF hf];simp)]
  ·obtain rfl:i=ws.length:=by omega
   rw [f193.l0_eq,end_lt,cF,List.drop_length]
   rfl
noncomputable def S193:Summ:=summ [.list tW,tI] (Int×Bool) (fun (d:List Wt×Int)=>chk (decide (d.1.length<4611686018427387904)) (some (sumAt d.1 d.2))) resIB
theorem ok193:SumOk Tryz.prog 193 S193 :=
 sumq f193.E (fn:=Tryz.f193) (code:=f193.code) f193.sums f193.inl fun (d:List Wt×Int) x hx=>by
  obtain ⟨hb,hx⟩:=chk_some hx
  obtain rfl:=oJ hx
  have hb:d.1.length<4611686018427387904:=by simpa using hb
  exact ⟨d.1.length+1,(f193.eq _ d.1 d.2).trans (f193.l0_is _ d.2 d.1 hb _ 0 0 (by omega) (by omega) (by omega) (by decide))⟩
end
section
set_option maxRecDepth 100000
noncomputable def f230.E (k:Nat):Env:=mkEnv tt [] [] [] [] k
noncomputable def f230.code:Go.Code:=cd Tryz.f230
theorem f230.eq (k:Nat) (x0:Int×Int) (x1:Int×Int):evFn (f230.E k) 9 230 Tryz.f230 (encL [qS,qS] (x0,x1)) =
 some (.bool (x0.2==x1.2)):=by kernel_rfl
theorem f230.inl (k:Nat):InlOk Tryz.prog (f230.E k):=inl_nil
theorem f230.sums (k:Nat):SumsOk Tryz.prog (f230.E k):=sums_nil
noncomputable def f142.E (k:Nat):Env:=mkEnv tt [(77,S77),(195,S195),(196,S196)] [] [(142,6,[.kill (rg [(0,2),(4,7),(10,33),(37,57)]),.tidy])] [] k
noncomputable def f142.code:Go.Code:=cd Tryz.f142
noncomputable def f142.l0 (k n:Nat) (p0:Int) (p1:Int) (p2:List (Int×Int)) (p3:Int) (p4:Int) (p5:Int) (p6:Int):Option V :=
 atPath (f142.E k) n ⟨(.u::.u::.u::(.ptr 786448 (0) (0))::.u::.u::.u::.u::(.int .i64 p0)::(.int .i64 p1)::.u::.u::.u::.u::.u::.u::.u::.u::.u::.u::.u::.u::.u::.u::.u::.u::.u::.u::.u::.u::.u::.u::.u::.u::(.ro qS p2)::(.int .i64 p3)::(.int .i64 p4)::un 21),[],[(786448,.box [(.int .i64 p5),(.int .i64 p6)])]⟩ 9 0 142 [.c 1,.c 1,.c 1,.c 1,.c 0,.c 1,.c 0] [] f142.code (finK tt Tryz.f142)
theorem f142.l0_eq (k n:Nat) (p0:Int) (p1:Int) (p2:List (Int×Int)) (p3:Int) (p4:Int) (p5:Int) (p6:Int):f142.l0 k (n+1) p0 p1 p2 p3 p4 p5 p6 =
 bif decide (p4<p3) then (chk (decide ((0:Int)≤p4∧p4<(↑p2.length:Int))) (bif decide ((rd qS p2 p4).1<p6) then (bif decide ((rd qS p2 p4).2>p0) then (f142.l0 k n ((rd qS p2 p4).2) ((rd qS p2 p4).1) p2 p3 (Go.IntKind.i64.wrap (p4+(1:Int))) p5 p6) else (f142.l0 k n p0 p1 p2 p3 (Go.IntKind.i64.wrap (p4+(1:Int))) p5 p6)) else (f142.l0 k n p0 p1 p2 p3 (Go.IntKind.i64.wrap (p4+(1:Int))) p5 p6))) else (some (.tup [(.int .i64 p0),(.int .i64 p1),(.int .i64 0)])):=by kernel_rfl
theorem f142.eq (k:Nat) (x0:List (Int×Int)) (x1:Int×Int):evFn (f142.E k) 9 142 Tryz.f142 (encL [(.list qS),qS] (x0,x1)) =
 (chk (decide (x0.length<4611686018427387904)) (some (runsMay x0))).bind (fun y0=>bif !y0 then (some (.tup [(.int .i64 0),(.int .i64 0),(.int .i64 1800)])) else (bif !spanMay x1 then (some (.tup [(.int .i64 0),(.int .i64 0),(.int .i64 1800)])) else ((chk (runsMay x0) (some ((↑(begun x0 x1.1):Int) - (1:Int)))).bind (fun y1=>chk (decide ((0:Int)≤y1∧y1<(↑x0.length:Int))) (chk (decide ((0:Int)≤Go.IntKind.i64.wrap (y1+(1:Int))∧Go.IntKind.i64.wrap (y1+(1:Int))≤(↑x0.length:Int))) (chk (decide ((↑x0.length:Int)≤(↑x0.length:Int))) (f142.l0 k k ((rd qS x0 y1).2) x1.1 (List.take ((↑x0.length:Int).toNat - (Go.IntKind.i64.wrap (y1+(1:Int))).toNat) (List.drop (Go.IntKind.i64.wrap (y1+(1:Int))).toNat x0)) ((↑(List.take ((↑x0.length:Int).toNat - (Go.IntKind.i64.wrap (y1+(1:Int))).toNat) (List.drop (Go.IntKind.i64.wrap (y1+(1:Int))).toNat x0)).length:Int)) 0 x1.1 x1.2))))))):=by kernel_rfl
theorem f142.inl (k:Nat):InlOk Tryz.prog (f142.E k):=inl_nil
theorem f142.sums (k:Nat):SumsOk Tryz.prog (f142.E k):=(sums_cons ok77 (sums_cons ok195 (sums_cons ok196 sums_nil)))
end
section
noncomputable def S230:Summ:=summ [tSp,tSp] Bool (fun (d:(Int×Int)×(Int×Int))=>some (d.1.2==d.2.2)) .bool
theorem ok230:SumOk Tryz.prog 230 S230 :=
 sumq f230.E (fn:=Tryz.f230) (code:=f230.code) f230.sums f230.inl fun (d:(Int×Int)×(Int×Int)) x hx=>by
  obtain rfl:=oJ hx
  exact ⟨0,f230.eq 0 d.1 d.2⟩
@[reducible] def resIII (x:Int×(Int×Int)):V:=.tup [.int .i64 x.1,.int .i64 x.2.1,.int .i64 x.2.2]
def mostL (to:Int):List (Int×Int)→Int×Int→Int×Int
 | [],m=>m
 |r::rs,m=>bif decide (r.1<to)&&decide (r.2>m.1) then mostL to rs (r.2,r.1) else mostL to rs m
def mostOf (rs:List (Int×Int)) (s:Int×Int):Int×(Int×Int) :=
 bif runsMay rs&&spanMay s then
  (
   let m:=mostL s.2 (rs.drop (begun rs s.1)) ((rs.getD (begun rs s.1 - 1) (0,0)).2,s.1)
   (m.1,m.2,0))
 else (0,0,1800)
theorem f142.l0_is (k:Nat) (a to:Int) (rs:List (Int×Int)) (hl:rs.length<4611686018427387904):∀ (n i:Nat) (m:Int×Int),i≤rs.length→rs.length<n+i →
  f142.l0 k n m.1 m.2 rs rs.length i a to=some (.tup [.int .i64 (mostL to (rs.drop i) m).1,.int .i64 (mostL to (rs.drop i) m).2,.int .i64 0])
 |0,i,m,h,h'=>by omega
 |n+1,i,m,h,h'=>by
  by_cases hlt:i<rs.length
  ·have hx:=gE hlt
   have ih:=fun m=>f142.l0_is k a to rs hl n (i+1) m (by omega) (by omega)
   rw [f142.l0_eq,idx_lt' hx,idx_in hx,rd_some (t:=tSp) hx,wrap_succ (by omega),cT,kT,List.drop_eq_getElem_cons hlt]
   simp only [mostL]
   cases decide (rs[i].1<to) with
   |false=>rw [cF,ih m,fA,cond_false]
   |true =>
    rw [cT,tA]
    cases decide (rs[i].2>m.1) with
    |false=>rw [cF,ih m,cond_false]
    |true=>rw [cT,ih (rs[i].2,rs[i].1),cond_true]
  ·obtain rfl:i=rs.length:=by omega
   rw [f142.l0_eq,end_lt,cF,List.drop_length]
   rfl
theorem begun_pos {rs:List (Int×Int)} (h:runsMay rs=true) {t:Int} (ht:0≤t):0<begun rs t∧begun rs t≤rs.length:=by
 obtain ⟨_,_,_,r,rs',rfl,h0⟩:=runs_small h
 constructor
 ·unfold begun
  rw [List.countP_cons,dT (by omega:r.1≤t)]
  simp
 ·exact List.countP_le_length ..
noncomputable def S142:Summ:=summ [.list tSp,tSp] (Int×(Int×Int)) (fun (d:List (Int×Int)×(Int×Int))=>chk (decide (d.1.length<4611686018427387904)) (some (mostOf d.1 d.2))) resIII
theorem ok142:SumOk Tryz.prog 142 S142 :=
 sumq f142.E (fn:=Tryz.f142) (code:=f142.code) f142.sums f142.inl fun (d:List (Int×Int)×(Int×Int)) x hx=>by
  obtain ⟨rs,s⟩:=d
  obtain ⟨hb,hx⟩:=chk_some hx
  obtain rfl:=oJ hx
  have hb':rs.length<4611686018427387904:=oD hb
  refine ⟨rs.length+1,(f142.eq _ rs s).trans ?_⟩
  rw [show decide (rs.length<4611686018427387904)=true from hb,kT,bS]
  show _=some (resIII (mostOf rs s))
  unfold mostOf
  cases hm:runsMay rs with
  |false=>rw [nF,cT,fA,cond_false]
  |true =>
   rw [nT,cF,tA]
   cases hs:spanMay s with
   |false=>rw [nF,cT,cond_false]
   |true =>
    have hs':0≤s.1∧s.1<s.2∧s.2≤4096:=oD hs
    obtain ⟨h1,h2⟩:=begun_pos hm hs'.1
    obtain ⟨h4,_⟩:=runs_small hm
    rw [nT,cF,kT,bS,cond_true]
    have e1:((begun rs s.1:Int) - 1)=((begun rs s.1 - 1:Nat):Int):=by omega
    have hx:rs[begun rs s.1 - 1]? = some rs[begun rs s.1 - 1]:=gE (by omega)
    have e2:rs.getD (begun rs s.1 - 1) (0,0)=rs[begun rs s.1 - 1]:=by rw [List.getD_eq_getElem?_getD,hx];rfl
    rw [e1,idx_in hx,kT,wrap_succ (by omega),show ((begun rs s.1 - 1+1:Nat):Int)=((begun rs s.1:Nat):Int) by omega,dT (show (0:Int)≤(begun rs s.1:Int)∧(begun rs s.1:Int)≤(rs.length:Int) by omega),kT,dT (Int.le_refl _),kT,rd_some (t:=tSp) hx,Int.toNat_natCast,Int.toNat_natCast,e2]
    rw [show List.take (rs.length - begun rs s.1) (List.drop (begun rs s.1) rs)=rs.drop (begun rs s.1) from List.take_of_length_le (by rw [List.length_drop];exact Nat.le_refl _)]
    have:=f142.l0_is (rs.length+1) s.1 s.2 (rs.drop (begun rs s.1)) (by rw [List.length_drop];omega) (rs.length+1) 0 (rs[begun rs s.1 - 1].2,s.1) (by omega) (by rw [List.length_drop];omega)
    rw [List.drop_zero] at this
    exact this
end
section
set_option maxRecDepth 100000
noncomputable def f141.E (k:Nat):Env:=mkEnv tt [(190,S190),(191,S191),(192,S192),(193,S193),(230,S230)] [(194,Tryz.f194),(228,Tryz.f228),(229,Tryz.f229)] [(141,14,[.kill (rg [(1,6),(8,37),(41,62)]),.tidy]),(141,5,[.kill (rg [(1,3),(5,15),(19,62)]),.tidy]),(229,9,[.kill (rg [(2,4),(8,65)]),.tidy]),(229,4,[.kill (rg [(2,4),(6,65)]),.tidy])] [(194,3968,(rg [(0,61)])),(229,262400,(rg [(0,3),(5,5)]))] k
noncomputable def f141.code:Go.Code:=cd Tryz.f141
noncomputable def f141.l0 (k n:Nat) (p0:List ((Int×Int)×Int)) (p1:Int) (p2:Int) (p3:List Int):Option V :=
 atPath (f141.E k) n ⟨((.ro (.pair qS qI) p0)::.u::.u::.u::(.slw 1048592)::.u::.u::.u::.u::.u::.u::.u::.u::.u::.u::.u::(.ro (.pair qS qI) p0)::(.int .i64 p1)::(.int .i64 p2)::un 44),[],[(1048592,.row qI p3)]⟩ 9 0 141 [.c 1,.c 1,.c 1,.c 0,.c 1,.c 0] [] f141.code (finK tt Tryz.f141)
noncomputable def f141.l1 (k n:Nat) (p0:List ((Int×Int)×Int)) (p1:Nat) (p2:Int) (p3:Int) (p4:List (Int×Int)) (p5:List Int):Option V :=
 atPath (f141.E k) n ⟨((.ro (.pair qS qI) p0)::.u::.u::.u::.u::.u::.u::(.slw 1835024)::.u::.u::.u::.u::.u::.u::.u::.u::.u::.u::.u::.u::.u::.u::.u::.u::.u::.u::.u::.u::.u::.u::.u::.u::.u::.u::.u::.u::.u::.u::(.sl 9961488 (0) p1)::(.int .i64 p2)::(.int .i64 p3)::un 22),[],[(1835024,.row qS p4),(9961488,.row qI p5)]⟩ 9 0 141 [.c 1,.c 1,.c 1,.c 1,.c 1,.c 1,.c 0,.c 1,.c 0] [] f141.code (finK tt Tryz.f141)
noncomputable def f141.l2 (k n:Nat) (p0:Int) (p1:List (Int×Int)):Option V :=
 atPath (f141.E k) n ⟨((.slw 16)::(.fn 230 [])::.u::.u::.u::(.int .i64 p0)::un 60),[(un 6),(un 63)],[(16,.row qS p1)]⟩ 9 0 141 [.c 1,.c 1,.c 1,.c 1,.c 1,.c 1,.c 1,.c 0,.call 1 194,.c 1,.c 0,.call 1 229,.c 1,.c 1,.c 0,.c 1,.c 0] [] f141.code (finK tt Tryz.f141)
noncomputable def f141.l3 (k n m0:Nat) (p0:Int) (p1:Nat) (p2:Nat) (p3:Int) (p4:List (Int×Int)):Option V :=
 atPath (f141.E k) n ⟨((.slw 16)::(.fn 230 [])::.u::.u::.u::(.int .i64 p0)::(.sl 16 p1 p2)::(.int .i64 p3)::un 58),[(un 6),(un 63)],[(16,.row qS p4)]⟩ 9 0 141 [.c 1,.c 1,.c 1,.c 1,.c 1,.c 1,.c 1,.c 0,.call 1 194,.c 1,.c 0,.call 1 229,.c 1,.c 1,.c 0,.c 1,.c 0,.c 0,.c 1,.c 0,.c 0,.c 1,.c 0,.c 1,.c 0,.c 1,.c 0] [m0] f141.code (finK tt Tryz.f141)
theorem f141.l0_eq (k n:Nat) (p0:List ((Int×Int)×Int)) (p1:Int) (p2:Int) (p3:List Int):f141.l0 k (n+1) p0 p1 p2 p3 =
 bif decide (p2<p1) then (chk (decide ((0:Int)≤p2∧p2<(↑p0.length:Int))) (bif !weightMay (rd (qS.pair qI) p0 p2) then (some (.tup [(.own qS ([])),(.int .i64 1800)])) else (chk (decide ((p3++[(rd (qS.pair qI) p0 p2).1.1,(rd (qS.pair qI) p0 p2).1.2]).length*8≤140737488355328)) (f141.l0 k n p0 p1 (Go.IntKind.i64.wrap (p2+(1:Int))) (p3++[(rd (qS.pair qI) p0 p2).1.1,(rd (qS.pair qI) p0 p2).1.2]))))) else ((chk (decide (0<p3.length∧p3.length<4611686018427387904)) (some (sortI p3))).bind (fun y0=>(chk (decide (0<y0.length∧y0.length<4611686018427387904)) (some (Go.Lib.compact y0++List.replicate (y0.length - (Go.Lib.compact y0).length) (0:Int)))).bind (fun y1=>f141.l1 k k p0 ((Go.Lib.compact y0).length) ((↑(Go.Lib.compact y0).length:Int)) 0 ([]) y1))):=by kernel_rfl
theorem f141.l1_eq (k n:Nat) (p0:List ((Int×Int)×Int)) (p1:Nat) (p2:Int) (p3:Int) (p4:List (Int×Int)) (p5:List Int):f141.l1 k (n+1) p0 p1 p2 p3 p4 p5 =
 bif decide (p3<p2) then (chk (decide ((0:Int)≤p3∧p3<(↑p1:Int))) ((chk (decide (p0.length<4611686018427387904)) (some (sumAt p0 (rd qI p5 (↑(0+p3.toNat):Int))))).bind (fun y0=>bif !y0.2 then (some (.tup [(.own qS ([])),(.int .i64 1801)])) else (bif decide (rd qI p5 (↑(0+p3.toNat):Int)<(4096:Int)) then (chk (decide ((p4++[(rd qI p5 (↑(0+p3.toNat):Int),y0.1)]).length*16≤140737488355328)) (f141.l1 k n p0 p1 p2 (Go.IntKind.i64.wrap (p3+(1:Int))) (p4++[(rd qI p5 (↑(0+p3.toNat):Int),y0.1)]) p5)) else (f141.l1 k n p0 p1 p2 (Go.IntKind.i64.wrap (p3+(1:Int))) p4 p5))))) else (bif decide ((↑p4.length:Int)<(2:Int)) then (chk (decide ((↑p4.length:Int)=(↑p4.length:Int))) (chk (decide ((↑p4.length:Int)=(↑p4.length:Int))) (some (.tup [(.own qS p4),(.int .i64 0)])))) else (f141.l2 k k 1 p4)):=by kernel_rfl
theorem f141.l2_eq (k n:Nat) (p0:Int) (p1:List (Int×Int)):f141.l2 k (n+1) p0 p1 =
 bif decide (p0<(↑p1.length:Int)) then (chk (decide ((0:Int)≤p0∧p0<(↑p1.length:Int))) (chk (decide ((0:Int)≤Go.IntKind.i64.wrap (p0 - (1:Int))∧Go.IntKind.i64.wrap (p0 - (1:Int))<(↑p1.length:Int))) (bif (rd qS p1 (↑p0.toNat:Int)).2==(rd qS p1 (↑(Go.IntKind.i64.wrap (p0 - (1:Int))).toNat:Int)).2 then (chk (decide ((0:Int)≤p0∧p0≤(↑p1.length:Int))) (chk (decide ((↑p1.length:Int)≤(↑p1.length:Int))) (f141.l3 k k n p0 (p0.toNat) ((↑p1.length:Int).toNat - p0.toNat) 1 p1))) else (f141.l2 k n (Go.IntKind.i64.wrap (p0+(1:Int))) p1)))) else (chk (decide ((↑p1.length:Int)=(↑p1.length:Int))) (chk (decide ((↑p1.length:Int)=(↑p1.length:Int))) (some (.tup [(.own qS p1),(.int .i64 0)])))):=by kernel_rfl
theorem f141.l3_eq (k n m0:Nat) (p0:Int) (p1:Nat) (p2:Nat) (p3:Int) (p4:List (Int×Int)):f141.l3 k (n+1) m0 p0 p1 p2 p3 p4 =
 bif decide (p3<(↑p2:Int)) then (chk (decide ((0:Int)≤p3∧p3<(↑p2:Int))) (chk (decide ((0:Int)≤Go.IntKind.i64.wrap (p3 - (1:Int))∧Go.IntKind.i64.wrap (p3 - (1:Int))<(↑p2:Int))) (bif !(rd qS p4 (↑(p1+p3.toNat):Int)).2==(rd qS p4 (↑(p1+(Go.IntKind.i64.wrap (p3 - (1:Int))).toNat):Int)).2 then (chk (decide ((0:Int)≤p3∧p3<(↑p2:Int))) (chk (decide ((0:Int)≤p0∧p0<(↑p4.length:Int))) (f141.l3 k n m0 (Go.IntKind.i64.wrap (p0+(1:Int))) p1 p2 (Go.IntKind.i64.wrap (p3+(1:Int))) (p4.set p0.toNat (rd qS p4 (↑(p1+p3.toNat):Int)))))) else (f141.l3 k n m0 p0 p1 p2 (Go.IntKind.i64.wrap (p3+(1:Int))) p4)))) else (chk (decide ((0:Int)≤p0∧p0≤(↑p4.length:Int))) (chk (decide ((↑p4.length:Int)≤(↑p4.length:Int))) (chk (decide ((0:Int)≤(0:Int)∧(0:Int)≤p0)) (chk (decide (p0≤(↑(List.take p0.toNat p4++List.replicate ((↑p4.length:Int).toNat - p0.toNat) (dflt qS)++List.drop (p0.toNat+((↑p4.length:Int).toNat - p0.toNat)) p4).length:Int))) (chk (decide ((↑(p0.toNat - 0):Int)=(↑(p0.toNat - 0):Int))) (chk (decide ((↑(p0.toNat - 0):Int)=(↑(p0.toNat - 0):Int))) (some (.tup [(.own qS (List.take (p0.toNat - 0) (List.drop 0 (List.take p0.toNat p4++List.replicate ((↑p4.length:Int).toNat - p0.toNat) (dflt qS)++List.drop (p0.toNat+((↑p4.length:Int).toNat - p0.toNat)) p4)))),(.int .i64 0)])))))))):=by kernel_rfl
theorem f141.eq (k:Nat) (x0:List ((Int×Int)×Int)):evFn (f141.E k) 9 141 Tryz.f141 (encL [(.list (.pair qS qI))] x0) =
 bif decide ((↑x0.length:Int)>(64:Int)) then (some (.tup [(.own qS ([])),(.int .i64 1800)])) else (f141.l0 k k x0 ((↑x0.length:Int)) 0 ([(0:Int)])):=by kernel_rfl
theorem f141.inl (k:Nat):InlOk Tryz.prog (f141.E k):=(inl_cons (by kernel_rfl) (by kernel_rfl) (inl_cons (by kernel_rfl) (by kernel_rfl) (inl_cons (by kernel_rfl) (by kernel_rfl) inl_nil)))
theorem f141.sums (k:Nat):SumsOk Tryz.prog (f141.E k):=(sums_cons ok190 (sums_cons ok191 (sums_cons ok192 (sums_cons ok193 (sums_cons ok230 sums_nil)))))
end
section
open Go
def keepR:Option (Int×Int)→List (Int×Int)→List (Int×Int)
 |_,[]=>[]
 |none,r::rs=>r::keepR (some r) rs
 |some q,r::rs=>bif r.2==q.2 then keepR (some r) rs else r::keepR (some r) rs
def buildL (ws:List Wt):List Int→List (Int×Int)→Option (List (Int×Int))
 | [],out=>some out
 |p::ps,out=>bif (sumAt ws p).2 then buildL ws ps (bif decide (p<4096) then out++[(p,(sumAt ws p).1)] else out) else none
def endsOf (ws:List Wt):List Int:=ws.flatMap fun w=>[w.1.1,w.1.2]
def pointsOf (ws:List Wt):List Int:=Lib.compact (sortI (0::endsOf ws))
def buildOf (ws:List Wt):List (Int×Int)×Int :=
 bif decide (ws.length≤64)&&ws.all weightMay then (match buildL ws (pointsOf ws) [] with
  |some out=>(keepR none out,0)
  |none=>([],1801))
 else ([],1800)
@[reducible] def resRE (x:List (Int×Int)×Int):V:=.tup [.own tSp x.1,.int .i64 x.2]
theorem keepR_len:∀ (p:Option (Int×Int)) (rs:List (Int×Int)),(keepR p rs).length≤rs.length
 |p,[]=>by cases p <;> exact Nat.le_refl _
 |none,r::rs=>by
  simp only [keepR,List.length_cons]
  have:=keepR_len (some r) rs
  omega
 |some q,r::rs=>by
  have:=keepR_len (some r) rs
  simp only [keepR]
  cases r.2==q.2
  ·rw [cond_false,List.length_cons,List.length_cons];omega
  ·rw [cond_true,List.length_cons];omega
theorem f141.l3_is (k m0:Nat) (L:List (Int×Int)) (k0:Nat) (hN:L.length≤4096):∀ (n k2:Nat) (out:List (Int×Int)) (q:Int×Int),1≤k2→k0+k2≤L.length→L.length<n+(k0+k2)→L[k0+k2 - 1]? = some q→out.length≤k0+k2 - 1 →
  keepR none L=out++keepR (some q) (L.drop (k0+k2)) →
  f141.l3 k n m0 (out.length:Int) k0 (L.length - k0) (k2:Int) (out++L.drop out.length)=some (resRE (keepR none L,0))
 |0,k2,out,q,_,h1,h2,_,_,_=>by omega
 |n+1,k2,out,q,h0,h1,h2,hq,ho,hk=>by
  have hlen:(out++L.drop out.length).length=L.length:=by rw [lA,List.length_drop];omega
  have hget:∀ j,out.length≤j→(out++L.drop out.length)[j]? = L[j]? := by
   intro j hj
   rw [List.getElem?_append_right hj,List.getElem?_drop]
   congr 1
   omega
  rw [f141.l3_eq]
  by_cases hlt:k0+k2<L.length
  ·have hx:L[k0+k2]? = some L[k0+k2]:=gE hlt
   have hx2:(out++L.drop out.length)[k0+k2]? = some L[k0+k2]:=by rw [hget _ (by omega),hx]
   have hq2:(out++L.drop out.length)[k0+(k2 - 1)]? = some q:=by rw [hget _ (by omega),← hq];congr 1;omega
   rw [List.drop_eq_getElem_cons hlt] at hk
   have e1:((k2:Int) - 1)=((k2 - 1:Nat):Int):=by omega
   rw [dT (by omega:(k2:Int)<((L.length - k0:Nat):Int)),cT,dT (by omega:0≤(k2:Int)∧(k2:Int)<((L.length - k0:Nat):Int)),kT,wrap64 (n:=(k2:Int) - 1) (by omega),e1,
    dT (by omega:0≤((k2 - 1:Nat):Int)∧((k2 - 1:Nat):Int)<((L.length - k0:Nat):Int)),kT,Int.toNat_natCast,Int.toNat_natCast,rd_some (t:=tSp) hx2,rd_some (t:=tSp) hq2,wrap_succ (i:=k2) (by omega),wrap_succ (i:=out.length) (by omega)]
   cases hc:L[k0+k2].2==q.2 with
   |true =>
    rw [nT,cF]
    refine f141.l3_is k m0 L k0 hN n (k2+1) out L[k0+k2] (by omega) (by omega) (by omega) (by rw [← hx];congr 1) (by omega) ?_
    rw [hk]
    simp only [keepR,hc,cond_true]
    rfl
   |false =>
    rw [nF,cT,kT,hlen,dT (by omega:0≤(out.length:Int)∧(out.length:Int)<(L.length:Int)),kT,Int.toNat_natCast]
    have hset:(out++L.drop out.length).set out.length L[k0+k2]=(out++[L[k0+k2]])++L.drop (out++[L[k0+k2]]).length:=by
     rw [List.set_append_right _ _ (Nat.le_refl _),Nat.sub_self,List.drop_eq_getElem_cons (show out.length<L.length by omega),List.set_cons_zero,lA,List.append_assoc]
     rfl
    have e2:((out.length+1:Nat):Int)=(((out++[L[k0+k2]]).length:Nat):Int):=by rw [lA];rfl
    rw [hset,e2]
    refine f141.l3_is k m0 L k0 hN n (k2+1) (out++[L[k0+k2]]) L[k0+k2] (by omega) (by omega) (by omega) (by rw [← hx];congr 1) (by rw [lA,List.length_singleton];omega) ?_
    rw [hk]
    simp only [keepR,hc,cond_false]
    rw [List.append_assoc]
    rfl
  ·have h3:k0+k2=L.length:=by omega
   rw [h3,List.drop_length] at hk
   have hk:keepR none L=out:=by rw [hk];simp [keepR]
   have e3:(List.take out.length (out++L.drop out.length)++List.replicate (L.length - out.length) (dflt (Ty.pair (Ty.int Go.IntKind.i64) (Ty.int Go.IntKind.i64)))++List.drop (out.length+(L.length - out.length)) (out++L.drop out.length)).length=L.length:=by
    rw [lA,lA,List.length_take,List.length_replicate,List.length_drop,hlen]
    omega
   rw [dF (by omega:¬ (k2:Int)<((L.length - k0:Nat):Int)),cF,hlen,dT (by omega:0≤(out.length:Int)∧(out.length:Int)≤(L.length:Int)),kT,dT (Int.le_refl _),kT,dT (by omega:(0:Int)≤0∧0≤(out.length:Int)),kT,Int.toNat_natCast,Int.toNat_natCast,e3,
    dT (by omega:(out.length:Int)≤(L.length:Int)),kT,dT rfl,kT,kT]
   have e4:List.take (out.length - 0) (List.drop 0 (List.take out.length (out++L.drop out.length)++List.replicate (L.length - out.length) (dflt (Ty.pair (Ty.int Go.IntKind.i64) (Ty.int Go.IntKind.i64)))++List.drop (out.length+(L.length - out.length)) (out++L.drop out.length)))=out:=by
    rw [Nat.sub_zero,List.drop_zero,List.append_assoc,List.take_left' (by rw [List.take_append_of_le_length (Nat.le_refl _),List.take_length]),List.take_append_of_le_length (Nat.le_refl _),List.take_length]
   rw [e4,hk]
theorem f141.l2_is (k:Nat) (L:List (Int×Int)) (hN:L.length≤4096) (hk:4096<k):∀ (n i:Nat) (q:Int×Int),1≤i→i≤L.length→L.length<n+i→L[i - 1]? = some q→keepR none L=L.take i++keepR (some q) (L.drop i) →
  f141.l2 k n (i:Int) L=some (resRE (keepR none L,0))
 |0,i,q,_,h1,h2,_,_=>by omega
 |n+1,i,q,h0,h1,h2,hq,hkr=>by
  rw [f141.l2_eq]
  by_cases hlt:i<L.length
  ·have hx:L[i]? = some L[i]:=gE hlt
   have e1:((i:Int) - 1)=((i - 1:Nat):Int):=by omega
   rw [idx_lt' hx,cT,idx_in hx,kT,wrap64 (n:=(i:Int) - 1) (by omega),e1,idx_in hq,kT,Int.toNat_natCast,Int.toNat_natCast,rd_some (t:=tSp) hx,rd_some (t:=tSp) hq,wrap_succ (by omega)]
   rw [List.drop_eq_getElem_cons hlt] at hkr
   cases hc:L[i].2==q.2 with
   |true =>
    rw [cT,dT (by omega:0≤(i:Int)∧(i:Int)≤(L.length:Int)),kT,dT (Int.le_refl _),kT,Int.toNat_natCast]
    have hlen:(L.take i).length=i:=by rw [List.length_take];omega
    have e2:L=L.take i++L.drop (L.take i).length:=by rw [hlen,List.take_append_drop]
    have:=f141.l3_is k n L i hN k 1 (L.take i) L[i] (by omega) (by omega) (by omega) (by rw [← hx];congr 1) (by omega) (by rw [hkr];simp only [keepR,hc,cond_true])
    rw [hlen,List.take_append_drop] at this
    exact this
   |false =>
    rw [cF]
    refine f141.l2_is k L hN hk n (i+1) L[i] (by omega) (by omega) (by omega) hx ?_
    rw [hkr]
    simp only [keepR,hc,cond_false]
    rw [List.take_add_one,hx,List.append_assoc]
    rfl
  ·obtain rfl:i=L.length:=by omega
   rw [List.drop_length,List.take_length] at hkr
   have hkr:keepR none L=L:=by rw [hkr];simp [keepR]
   rw [end_lt,cF,dT rfl,kT,kT,hkr]
theorem f141.l1_is (k:Nat) (ws:List Wt) (hw:ws.length<4611686018427387904) (P Z:List Int) (hP:P.length≤4096) (hk:4096<k):∀ (n i:Nat) (out:List (Int×Int)),i≤P.length→P.length<n+i→out.length≤i →
  f141.l1 k n ws P.length P.length (i:Int) out (P++Z)=some (resRE (match buildL ws (P.drop i) out with|some o=>(keepR none o,0)|none=>([],1801)))
 |0,i,out,h,h',_=>by omega
 |n+1,i,out,h,h',ho=>by
  rw [f141.l1_eq]
  by_cases hlt:i<P.length
  ·have hx:P[i]? = some P[i]:=gE hlt
   have hx2:(P++Z)[i]? = some P[i]:=by rw [List.getElem?_append_left hlt,hx]
   rw [idx_lt' hx,cT,idx_in hx,kT,dT hw,kT,bS,Int.toNat_natCast,Nat.zero_add,rd_some (t:=tI) hx2,wrap_succ (by omega),List.drop_eq_getElem_cons hlt]
   simp only [buildL]
   cases hs:(sumAt ws P[i]).2 with
   |false=>rw [nF,cT,cond_false]
   |true =>
    rw [nT,cF,cond_true]
    by_cases hp:P[i]<4096
    ·rw [dT hp,cT,cond_true,dT (by rw [lA,List.length_singleton];omega),kT]
     exact f141.l1_is k ws hw P Z hP hk n (i+1) _ (by omega) (by omega) (by rw [lA,List.length_singleton];omega)
    ·rw [dF hp,cF,cond_false]
     exact f141.l1_is k ws hw P Z hP hk n (i+1) _ (by omega) (by omega) (by omega)
  ·obtain rfl:i=P.length:=by omega
   rw [end_lt,cF,List.drop_length]
   simp only [buildL]
   by_cases h2:(out.length:Int)<2
   ·rw [dT h2,cT,dT trivial,kT,kT]
    have:keepR none out=out:=by
     match out,h2 with
     | [],_=>rfl
     | [r],_=>simp [keepR]
     |_::_::_,h2=>simp only [List.length_cons] at h2;omega
    rw [this]
   ·rw [dF h2,cF]
    match out,h2,ho with
    | [],h2,_=>simp at h2
    |r::rs,h2,ho =>
     refine f141.l2_is k (r::rs) (by omega) hk k 1 r (by omega) (by simp) (by omega) rfl ?_
     simp [keepR]
theorem f141.l0_is (k:Nat) (ws:List Wt) (hw:ws.length≤64) (hk:4096<k):∀ (n i:Nat),i≤ws.length→ws.length<n+i →
  f141.l0 k n ws ws.length (i:Int) (0::endsOf (ws.take i))=some (resRE (bif (ws.drop i).all weightMay then (match buildL ws (pointsOf ws) [] with
  |some out=>(keepR none out,0)
  |none=>([],1801)) else ([],1800)))
 |0,i,h,h'=>by omega
 |n+1,i,h,h'=>by
  have hel:∀ vs:List Wt,(endsOf vs).length=2*vs.length:=by
   intro vs
   induction vs with
   |nil=>rfl
   |cons v vs ih =>
    show ([v.1.1,v.1.2]++endsOf vs).length=_
    rw [lA,ih]
    simp only [List.length_cons,List.length_nil]
    omega
  rw [f141.l0_eq]
  by_cases hlt:i<ws.length
  ·have hx:ws[i]? = some ws[i]:=gE hlt
   rw [idx_lt' hx,cT,idx_in hx,kT,rd_some (t:=tW) hx,wrap_succ (by omega),List.drop_eq_getElem_cons hlt,List.all_cons]
   cases weightMay ws[i] with
   |false=>rw [nF,cT,fA,cond_false]
   |true =>
    rw [nT,cF,tA]
    have e:(0::endsOf (ws.take i))++[ws[i].1.1,ws[i].1.2]=0::endsOf (ws.take (i+1)):=by
     rw [List.take_add_one,hx]
     show 0::(endsOf (ws.take i)++[ws[i].1.1,ws[i].1.2])=0::endsOf (ws.take i++[ws[i]])
     unfold endsOf
     rw [List.flatMap_append]
     rfl
    rw [e,dT (by rw [List.length_cons,hel,List.length_take];omega),kT]
    exact f141.l0_is k ws hw hk n (i+1) (by omega) (by omega)
  ·obtain rfl:i=ws.length:=by omega
   have hlen:(0::endsOf ws).length=2*ws.length+1:=by rw [List.length_cons,hel]
   have hc:(Lib.compact (sortI (0::endsOf ws))).length≤129:=by
    have:=compact_le (sortI (0::endsOf ws))
    rw [sortI_len] at this
    omega
   rw [end_lt,cF,List.take_length,List.drop_length,List.all_nil,cond_true,dT (by omega),kT,bS,sortI_len,dT (by omega),kT,bS]
   exact f141.l1_is k ws (by omega) (Lib.compact (sortI (0::endsOf ws))) _ (by omega) hk k 0 [] (by omega) (by omega) (by simp)
noncomputable def S141:Summ:=summ [.list tW] (List (Int×Int)×Int) (fun (ws:List Wt)=>some (buildOf ws)) resRE
theorem ok141:SumOk Tryz.prog 141 S141 :=
 sumq f141.E (fn:=Tryz.f141) (code:=f141.code) f141.sums f141.inl fun (ws:List Wt) x hx=>by
  obtain rfl:=oJ hx
  refine ⟨4097,(f141.eq _ ws).trans ?_⟩
  show _=some (resRE (buildOf ws))
  unfold buildOf
  by_cases h:ws.length≤64
  ·rw [dF (by omega:¬ (ws.length:Int)>64),cF,dT h,tA]
   exact f141.l0_is 4097 ws h (by omega) 4097 0 (by omega) (by omega)
  ·rw [dT (by omega:(ws.length:Int)>64),cT,dF h,fA,cond_false]
end
section
abbrev Pc:=(Int×Int)×List Pt
abbrev Rs:=(Int×Int)×(Int×(Int×(Int×(Int×(Int×List Pc)))))
abbrev Bk:=Gr×(Int×(Int×(Int×List Rs)))
abbrev Rq:=(Int×Int)×(Int×(Int×(Int×(Int×Int))))
abbrev Sg:=(Int×Int)×List Int
abbrev Pl:=(Int×List Int)×(Int×(Int×(Int×(Int×(List Sg×(List Int×List Pc))))))
@[reducible] def tPc:Ty:=.pair tSp (.list tP)
@[reducible] def tRs:Ty:=.pair tSp (.pair tI (.pair tI (.pair tI (.pair tI (.pair tI (.list tPc))))))
@[reducible] def tBk:Ty:=.pair tG (.pair tI (.pair tI (.pair tI (.list tRs))))
@[reducible] def tRq:Ty:=.pair tSp (.pair tI (.pair tI (.pair tI (.pair tI tI))))
@[reducible] def tSg:Ty:=.pair tSp tL
def Rs.id (r:Rs):Int:=r.2.1
def Rs.owner (r:Rs):Int:=r.2.2.1
def Rs.src (r:Rs):Int:=r.2.2.2.1
def Rs.dst (r:Rs):Int:=r.2.2.2.2.1
def Rs.rate (r:Rs):Int:=r.2.2.2.2.2.1
def Rs.pcs (r:Rs):List Pc:=r.2.2.2.2.2.2
def Bk.segs (b:Bk):Int:=b.2.1
def Bk.now (b:Bk):Int:=b.2.2.1
def Bk.next (b:Bk):Int:=b.2.2.2.1
def Bk.list (b:Bk):List Rs:=b.2.2.2.2
def hasL (g:Gr) (i:Int):Bool:=decide (0≤i∧i<(g.2.length:Int))
noncomputable def S148:Summ:=summ [tG,tI] Bool (fun (d:Gr×Int)=>some (hasL d.1 d.2)) .bool
theorem ok148:SumOk Tryz.prog 148 S148 :=
 sumq f148.E (fn:=Tryz.f148) (code:=f148.code) f148.sums f148.inl fun (d:Gr×Int) x hx=>by
  obtain ⟨g,i⟩:=d
  obtain rfl:=oJ hx
  refine ⟨0,(f148.eq 0 g i).trans ?_⟩
  show _=some (V.bool (hasL g i))
  unfold hasL
  by_cases h:i ≥ 0
  ·rw [dT h,cT]
   congr 2
   rw [Bool.eq_iff_iff,decide_eq_true_iff,decide_eq_true_iff]
   constructor
   ·exact fun h2=>⟨h,h2⟩
   ·exact fun h2=>h2.2
  ·rw [dF h,cF,dF (fun h2=>h h2.1)]
def formB (b:Bk):Bool:=graphMay b.1&&(decide (1≤b.segs∧b.segs≤8)&&(decide (0≤b.now∧b.now≤4096)&&(decide (1≤b.next∧b.next≤1048577)&&decide (b.list.length≤8))))
noncomputable def S138:Summ:=summ [tBk] Bool (fun (b:Bk)=>some (formB b)) .bool
theorem ok138:SumOk Tryz.prog 138 S138 :=
 sumq f138.E (fn:=Tryz.f138) (code:=f138.code) f138.sums f138.inl fun (b:Bk) x hx=>by
  obtain rfl:=oJ hx
  refine ⟨0,(f138.eq 0 b).trans ?_⟩
  show _=some (V.bool (formB b))
  unfold formB Bk.segs Bk.now Bk.next Bk.list
  have e4:decide ((b.2.2.2.2.length:Int)≤8)=decide (b.2.2.2.2.length≤8):=decide_eq_decide.2 (by omega)
  rw [e4]
  simp only [ge_iff_le,Bool.decide_and]
  cases graphMay b.1 <;> cases decide (1≤b.2.1) <;> cases decide (b.2.1≤8) <;> cases decide (0≤b.2.2.1) <;> cases decide (b.2.2.1≤4096) <;> cases decide (1≤b.2.2.2.1) <;> cases decide (b.2.2.2.1≤1048577) <;> rfl
def wholeL (to:Int):Int→List Pc→Bool
 |at_,[]=>at_==to
 |at_,p::ps=>spanMay p.1&&(p.1.1==at_&&wholeL to p.1.2 ps)
theorem f188.l0_is (k:Nat) (ps:List Pc) (s t:Int) (hl:ps.length<4611686018427387904):∀ (n i:Nat) (at_:Int),i≤ps.length→ps.length<n+i→f188.l0 k n at_ ps ps.length i s t=some (.bool (wholeL t at_ (ps.drop i)))
 |0,i,_,h,h'=>by omega
 |n+1,i,at_,h,h'=>by
  rw [f188.l0_eq]
  by_cases hlt:i<ps.length
  ·have hx:=gE hlt
   rw [idx_lt' hx,cT,idx_in hx,kT,rd_some (t:=tPc) hx,wrap_succ (by omega),List.drop_eq_getElem_cons hlt]
   simp only [wholeL]
   cases spanMay ps[i].1 with
   |false=>rw [nF,cT,fA]
   |true =>
    rw [nT,cF,tA]
    cases hc:ps[i].1.1==at_ with
    |false=>rw [show (ps[i].1.1 != at_)=true by simp only [bne];rw [hc];rfl,cT,fA]
    |true =>
     rw [show (ps[i].1.1 != at_)=false by simp only [bne];rw [hc];rfl,cF,tA]
     exact f188.l0_is k ps s t hl n (i+1) _ (by omega) (by omega)
  ·obtain rfl:i=ps.length:=by omega
   rw [end_lt,cF,List.drop_length]
   rfl
noncomputable def S188:Summ:=summ [tSp,.list tPc] Bool (fun (d:(Int×Int)×List Pc)=>chk (decide (d.2.length<4611686018427387904)) (some (wholeL d.1.2 d.1.1 d.2))) .bool
theorem ok188:SumOk Tryz.prog 188 S188 :=
 sumq f188.E (fn:=Tryz.f188) (code:=f188.code) f188.sums f188.inl fun (d:(Int×Int)×List Pc) x hx=>by
  obtain ⟨s,ps⟩:=d
  obtain ⟨hb,hx⟩:=chk_some hx
  obtain rfl:=oJ hx
  have hb:ps.length<4611686018427387904:=by simpa using hb
  exact ⟨ps.length+1,(f188.eq _ s ps).trans (f188.l0_is _ ps s.1 s.2 hb _ 0 s.1 (by omega) (by omega))⟩
noncomputable def S199:Summ:=summ [.list tLk] (List Lk) (cpy 24) (.own tLk)
theorem ok199:SumOk Tryz.prog 199 S199 :=
 sumq f199.E (fn:=Tryz.f199) (code:=f199.code) f199.sums f199.inl fun (d:List Lk) x hx=>by
  obtain ⟨hb,hx⟩:=chk_some hx
  obtain rfl:=oJ hx
  refine ⟨0,(f199.eq 0 d).trans ?_⟩
  rw [List.nil_append,show decide (d.length*24≤140737488355328)=true from hb,kT]
  cases d with
  |nil=>rw [show (((([]:List Lk).length:Nat):Int)==0)=true from rfl,cT,both_self]
  |cons y ys=>rw [show (((y::ys).length:Int)==0)=false by simp;omega,cF]
def timedB (t:Int):Bool:=decide (0≤t∧t<4096)
noncomputable def S160:Summ:=summ [tI] Bool (fun (t:Int)=>some (timedB t)) .bool
theorem ok160:SumOk Tryz.prog 160 S160 :=
 sumq f160.E (fn:=Tryz.f160) (code:=f160.code) f160.sums f160.inl fun (d:Int) x hx=>by
  obtain rfl:=oJ hx
  refine ⟨0,(f160.eq 0 d).trans ?_⟩
  unfold timedB
  by_cases h:d ≥ 0
  ·rw [dT h,cT]
   congr 2
   rw [Bool.eq_iff_iff,decide_eq_true_iff,decide_eq_true_iff]
   exact ⟨fun h2=>⟨h,h2⟩,fun h2=>h2.2⟩
  ·rw [dF h,cF,dF (fun h2=>h h2.1)]
def asksB (q:Rq):Bool:=q.2.1==1 || q.2.1==2
noncomputable def S45:Summ:=summ [tRq] Bool (fun (q:Rq)=>some (asksB q)) .bool
theorem ok45:SumOk Tryz.prog 45 S45 :=
 sumq f45.E (fn:=Tryz.f45) (code:=f45.code) f45.sums f45.inl fun (q:Rq) x hx=>by
  obtain rfl:=oJ hx
  refine ⟨0,(f45.eq 0 q).trans ?_⟩
  unfold asksB
  cases q.2.1==1 <;> rfl
def Pl.code (p:Pl):Int:=p.2.1
def Pl.verts (p:Pl):List Int:=p.1.2
def Pl.pcs (p:Pl):List Pc:=p.2.2.2.2.2.2.2
@[reducible] def tRu:Ty:=.pair .bool tI
def spanRule (b:Bk) (q:Rq):Bool:=!spanMay q.1 || decide (q.1.1<b.now)
noncomputable def S144:Summ:=summ [tBk,tRq] (Bool×Int) (fun (d:Bk×Rq)=>some (spanRule d.1 d.2,3)) (fun x=>encV tRu x)
theorem ok144:SumOk Tryz.prog 144 S144 :=
 sumq f144.E (fn:=Tryz.f144) (code:=f144.code) f144.sums f144.inl fun (d:Bk×Rq) x hx=>by
  obtain ⟨b,q⟩:=d
  obtain rfl:=oJ hx
  refine ⟨0,(f144.eq 0 b q).trans ?_⟩
  show _=some (V.agg [.bool (spanRule b q),.int .i64 3])
  unfold spanRule Bk.now
  cases spanMay q.1 <;> rfl
noncomputable def S145:Summ:=summ [tRq] (Bool×Int) (fun (q:Rq)=>some (q.2.2.2.2.2==0,4)) (fun x=>encV tRu x)
theorem ok145:SumOk Tryz.prog 145 S145 :=
 sumq f145.E (fn:=Tryz.f145) (code:=f145.code) f145.sums f145.inl fun (q:Rq) x hx=>by
  obtain rfl:=oJ hx
  exact ⟨0,f145.eq 0 q⟩
def firstOf:List (Bool×Int)→Int
 | []=>0
 |r::rs=>bif r.1 then r.2 else firstOf rs
theorem f84.l0_is (k:Nat) (rs:List (Bool×Int)) (hl:rs.length<4611686018427387904):∀ (n i:Nat),i≤rs.length→rs.length<n+i→f84.l0 k n rs rs.length i=some (.int .i64 (firstOf (rs.drop i)))
 |0,i,h,h'=>by omega
 |n+1,i,h,h'=>by
  rw [f84.l0_eq]
  by_cases hlt:i<rs.length
  ·have hx:=gE hlt
   rw [idx_lt' hx,cT,idx_in hx,kT,rd_some (t:=tRu) hx,wrap_succ (by omega),List.drop_eq_getElem_cons hlt,f84.l0_is k rs hl n (i+1) (by omega) (by omega)]
   simp only [firstOf]
   cases rs[i].1 <;> rfl
  ·obtain rfl:i=rs.length:=by omega
   rw [end_lt,cF,List.drop_length]
   rfl
noncomputable def S84:Summ:=summ [.list tRu] Int (fun (d:List (Bool×Int))=>chk (decide (d.length<4611686018427387904)) (some (firstOf d))) (.int .i64)
theorem ok84:SumOk Tryz.prog 84 S84 :=
 sumq f84.E (fn:=Tryz.f84) (code:=f84.code) f84.sums f84.inl fun (d:List (Bool×Int)) x hx=>by
  obtain ⟨hb,hx⟩:=chk_some hx
  obtain rfl:=oJ hx
  have hb:d.length<4611686018427387904:=by simpa using hb
  exact ⟨d.length+1,(f84.eq _ d).trans (f84.l0_is _ d hb _ 0 (by omega) (by omega))⟩
def onlyOf (q:Rq):Rq :=
 bif q.2.1==1 then (q.1,q.2.1,0,q.2.2.2.1,q.2.2.2.2.1,q.2.2.2.2.2)
 else bif q.2.1==2 then (q.1,q.2.1,q.2.2.1,0,0,q.2.2.2.2.2)
 else bif q.2.1==3 then ((0,0),q.2.1,q.2.2.1,0,0,0)
 else bif q.2.1==4 then ((0,0),q.2.1,q.2.2.1,0,0,0)
 else bif q.2.1==5 then ((q.1.1,0),q.2.1,q.2.2.1,0,0,0)
 else bif q.2.1==6 then ((q.1.1,0),q.2.1,0,0,0,0)
 else ((0,0),q.2.1,0,0,0,0)
def idxId (id:Int):Nat→List Rs→Int
 |_,[]=>-1
 |i,r::rs=>bif r.id==id then (i:Int) else idxId id (i+1) rs
theorem f201.l0_is (k:Nat) (id:Int) (rs:List Rs) (hl:rs.length<4611686018427387904):∀ (n i:Nat),i≤rs.length→rs.length<n+i→f201.l0 k n rs rs.length i id=some (.int .i64 (idxId id i (rs.drop i)))
 |0,i,h,h'=>by omega
 |n+1,i,h,h'=>by
  rw [f201.l0_eq]
  by_cases hlt:i<rs.length
  ·have hx:=gE hlt
   rw [idx_lt' hx,cT,idx_in hx,kT,rd_some (t:=tRs) hx,wrap_succ (by omega),List.drop_eq_getElem_cons hlt,f201.l0_is k id rs hl n (i+1) (by omega) (by omega)]
   simp only [idxId,Rs.id]
   cases rs[i].2.1==id <;> rfl
  ·obtain rfl:i=rs.length:=by omega
   rw [end_lt,cF,List.drop_length]
   rfl
def placeOf (b:Bk) (id:Int):Int:=idxId id 0 b.list
noncomputable def S111:Summ:=summ [tBk,tI] Int (fun (d:Bk×Int)=>chk (decide (d.1.list.length<4611686018427387904)) (some (placeOf d.1 d.2))) (.int .i64)
noncomputable def S201:Summ:=S111
theorem ok201:SumOk Tryz.prog 201 S201 :=
 sumq f201.E (fn:=Tryz.f201) (code:=f201.code) f201.sums f201.inl fun (d:Bk×Int) x hx=>by
  obtain ⟨b,id⟩:=d
  obtain ⟨hb,hx⟩:=chk_some hx
  obtain rfl:=oJ hx
  have hb:b.2.2.2.2.length<4611686018427387904:=oD hb
  exact ⟨b.2.2.2.2.length+1,(f201.eq _ b id).trans (f201.l0_is _ id b.2.2.2.2 hb _ 0 (by omega) (by omega))⟩
abbrev Rp:=(Int×Int)×((Int×List Int)×(Int×(Int×(Int×(Int×(Int×List Pc))))))
@[reducible] def tRp:Ty:=.pair tSp (.pair (.pair tI tL) (.pair tI (.pair tI (.pair tI (.pair tI (.pair tI (.list tPc)))))))
@[reducible] def ownRp (r:Rp):V:=.agg [.int .i64 r.1.1,.int .i64 r.1.2,.int .i64 r.2.1.1,.own tI r.2.1.2,.int .i64 r.2.2.1,.int .i64 r.2.2.2.1,.int .i64 r.2.2.2.2.1,.int .i64 r.2.2.2.2.2.1,.int .i64 r.2.2.2.2.2.2.1,.own tPc r.2.2.2.2.2.2.2]
def codedOf (c:Int):Rp:=((0,0),(0,[]),1,c,0,0,0,[])
noncomputable def S94:Summ:=summ [tI] Rp (fun (c:Int)=>some (codedOf c)) ownRp
theorem ok94:SumOk Tryz.prog 94 S94 :=
 sumq f94.E (fn:=Tryz.f94) (code:=f94.code) f94.sums f94.inl fun (c:Int) x hx=>by
  obtain rfl:=oJ hx
  exact ⟨0,f94.eq 0 c⟩
end
section
set_option maxRecDepth 100000
noncomputable def f139.E (k:Nat):Env:=mkEnv tt [(77,S77),(169,S169),(188,S188)] [] [(139,6,[.kill (rg [(0,1),(4,61),(65,80)]),.tidy])] [] k
noncomputable def f139.code:Go.Code:=cd Tryz.f139
noncomputable def f139.l0 (k n:Nat) (p0:List (eC)) (p1:Int) (p2:Int) (p3:Int) (p4:List (eL)) (p5:Int) (p6:Int) (p7:Int) (p8:List (eR)) (p9:Int) (p10:Int) (p11:Int) (p12:Int) (p13:Int) (p14:Int) (p15:Int):Option V :=
 atPath (f139.E k) n ⟨(.u::.u::(.ptr 524304 (0) (0))::(.ptr 786448 (0) (0))::.u::.u::.u::.u::.u::.u::.u::.u::.u::.u::.u::.u::.u::.u::.u::.u::.u::.u::.u::.u::.u::.u::.u::.u::.u::.u::.u::.u::.u::.u::.u::.u::.u::.u::.u::.u::.u::.u::.u::.u::.u::.u::.u::.u::.u::.u::.u::.u::.u::.u::.u::.u::.u::.u::.u::.u::.u::.u::(.ro qC p0)::(.int .i64 p1)::(.int .i64 p2)::un 16),[],[(524304,.box [(.int .i64 p3),(.ro qL p4),(.int .i64 p5),(.int .i64 p6),(.int .i64 p7),(.ro qR p8)]),(786448,.box [(.int .i64 p9),(.int .i64 p10),(.int .i64 p11),(.int .i64 p12),(.int .i64 p13),(.int .i64 p14),(.int .i64 p15),(.ro qC p0)])]⟩ 9 0 139 [.c 1,.c 1,.c 1,.c 0,.c 1,.c 0] [] f139.code (finK tt Tryz.f139)
theorem f139.l0_eq (k n:Nat) (p0:List (eC)) (p1:Int) (p2:Int) (p3:Int) (p4:List (eL)) (p5:Int) (p6:Int) (p7:Int) (p8:List (eR)) (p9:Int) (p10:Int) (p11:Int) (p12:Int) (p13:Int) (p14:Int) (p15:Int):f139.l0 k (n+1) p0 p1 p2 p3 p4 p5 p6 p7 p8 p9 p10 p11 p12 p13 p14 p15 =
 bif decide (p2<p1) then (chk (decide ((0:Int)≤p2∧p2<(↑p0.length:Int))) (bif !mayB (p3,p4) p13 p14 p15 (rd qC p0 p2).2 then (some (.bool false)) else (f139.l0 k n p0 p1 (Go.IntKind.i64.wrap (p2+(1:Int))) p3 p4 p5 p6 p7 p8 p9 p10 p11 p12 p13 p14 p15))) else (some (.bool true)):=by kernel_rfl
theorem f139.eq (k:Nat) (x0:(Int×List (eL)) ×
 Int×Int×Int×List (eR)) (x1:eR):evFn (f139.E k) 9 139 Tryz.f139 (encL [(.pair (.pair qI (.list qL)) (.pair qI (.pair qI (.pair qI (.list qR))))),qR] (x0,x1)) =
 bif !spanMay x1.1 then (some (.bool false)) else (bif decide (x1.1.2≤x0.2.2.1) then (some (.bool false)) else (bif decide (x1.2.1<(1:Int)) then (some (.bool false)) else (bif decide (x1.2.1 ≥ x0.2.2.2.1) then (some (.bool false)) else (bif decide (x1.2.2.1<(0:Int)) then (some (.bool false)) else (bif decide (x1.2.2.1 ≥ (4:Int)) then (some (.bool false)) else (bif decide ((↑(x1.2.2.2.2.2.2.length):Int)<(1:Int)) then (some (.bool false)) else (bif decide ((↑(x1.2.2.2.2.2.2.length):Int)>x0.2.1) then (some (.bool false)) else ((chk (decide (x1.2.2.2.2.2.2.length<4611686018427387904)) (some (wholeL x1.1.2 x1.1.1 x1.2.2.2.2.2.2))).bind (fun y0=>bif !y0 then (some (.bool false)) else (f139.l0 k k x1.2.2.2.2.2.2 ((↑(x1.2.2.2.2.2.2.length):Int)) 0 x0.1.1 x0.1.2 x0.2.1 x0.2.2.1 x0.2.2.2.1 x0.2.2.2.2 x1.1.1 x1.1.2 x1.2.1 x1.2.2.1 x1.2.2.2.1 x1.2.2.2.2.1 x1.2.2.2.2.2.1)))))))))):=by kernel_rfl
theorem f139.inl (k:Nat):InlOk Tryz.prog (f139.E k):=inl_nil
theorem f139.sums (k:Nat):SumsOk Tryz.prog (f139.E k):=(sums_cons ok77 (sums_cons ok169 (sums_cons ok188 sums_nil)))
noncomputable def f140.E (k:Nat):Env:=mkEnv tt [(189,S189)] [] [(140,11,[.kill (rg [(0,0),(3,4),(6,8),(10,19),(23,30),(34,44),(48,70)]),.tidy]),(140,7,[.kill (rg [(0,0),(3,4),(6,19),(23,30),(34,70)]),.tidy]),(140,3,[.kill (rg [(0,0),(3,4),(6,19),(23,70)]),.tidy]),(140,14,[.drop 63]),(0,1152,[.drop 60])] [] k
noncomputable def f140.code:Go.Code:=cd Tryz.f140
noncomputable def f140.l0 (k n:Nat) (p0:Int) (p1:List (eR)) (p2:Int) (p3:Int) (p4:Int) (p5:List (eL)) (p6:Int) (p7:Int) (p8:Int) (p9:List (List ((Int×Int)×Int))):Option V :=
 atPath (f140.E k) n ⟨(.u::(.int .i64 p0)::(.ptr 524304 (0) (0))::.u::.u::(.slw 1310736)::.u::.u::.u::.u::.u::.u::.u::.u::.u::.u::.u::.u::.u::.u::(.ro qR p1)::(.int .i64 p2)::(.int .i64 p3)::un 48),[],[(524304,.box [(.int .i64 p4),(.ro qL p5),(.int .i64 p6),(.int .i64 p7),(.int .i64 p8),(.ro qR p1)]),(1310736,.nest (.pair qS qI) p9 none)]⟩ 9 0 140 [.c 1,.c 1,.c 0,.c 1,.c 0] [] f140.code (finK tt Tryz.f140)
noncomputable def f140.l1 (k n m0:Nat) (p0:Int) (p1:List (eR)) (p2:Int) (p3:Int) (p4:List (eC)) (p5:Int) (p6:Int) (p7:Int) (p8:List (eL)) (p9:Int) (p10:Int) (p11:Int) (p12:List (List ((Int×Int)×Int))):Option V :=
 atPath (f140.E k) n ⟨(.u::(.int .i64 p0)::(.ptr 524304 (0) (0))::.u::.u::(.slw 1310736)::.u::.u::.u::.u::.u::.u::.u::.u::.u::.u::.u::.u::.u::.u::(.ro qR p1)::(.int .i64 p2)::(.int .i64 p3)::.u::.u::.u::.u::.u::.u::.u::.u::(.ro qC p4)::(.int .i64 p5)::(.int .i64 p6)::un 37),[],[(524304,.box [(.int .i64 p7),(.ro qL p8),(.int .i64 p9),(.int .i64 p10),(.int .i64 p11),(.ro qR p1)]),(1310736,.nest (.pair qS qI) p12 none)]⟩ 9 0 140 [.c 1,.c 1,.c 0,.c 1,.c 0,.c 0,.c 1,.c 1,.c 0,.c 0,.c 1,.c 1,.c 1,.c 0] [m0] f140.code (finK tt Tryz.f140)
noncomputable def f140.l2 (k n m0 m1:Nat) (p0:Int) (p1:List (eR)) (p2:Int) (p3:Int) (p4:List (eC)) (p5:Int) (p6:Int) (p7:Int) (p8:Int) (p9:Int) (p10:List (eL)) (p11:Int) (p12:Int) (p13:Int) (p14:List (List ((Int×Int)×Int))) (p15:Int) (p16:Int) (p17:List (eP)) (p18:List Int):Option V :=
 atPath (f140.E k) n ⟨(.u::(.int .i64 p0)::(.ptr 524304 (0) (0))::.u::.u::(.slw 1310736)::.u::.u::.u::(.ptr 2359312 (0) (0))::.u::.u::.u::.u::.u::.u::.u::.u::.u::.u::(.ro qR p1)::(.int .i64 p2)::(.int .i64 p3)::.u::.u::.u::.u::.u::.u::.u::.u::(.ro qC p4)::(.int .i64 p5)::(.int .i64 p6)::.u::.u::.u::.u::.u::.u::.u::.u::.u::.u::.u::(.slw 11796496)::(.int .i64 p7)::(.int .i64 p8)::un 23),[],[(524304,.box [(.int .i64 p9),(.ro qL p10),(.int .i64 p11),(.int .i64 p12),(.int .i64 p13),(.ro qR p1)]),(1310736,.nest (.pair qS qI) p14 none),(2359312,.box [(.int .i64 p15),(.int .i64 p16),(.ro qP p17)]),(11796496,.row qI p18)]⟩ 9 0 140 [.c 1,.c 1,.c 0,.c 1,.c 0,.c 0,.c 1,.c 1,.c 0,.c 0,.c 1,.c 1,.c 1,.c 0,.c 0,.c 1,.c 1,.c 0,.c 0,.c 1,.c 1,.c 1,.c 0] [m0,m1] f140.code (finK tt Tryz.f140)
theorem f140.l0_eq (k n:Nat) (p0:Int) (p1:List (eR)) (p2:Int) (p3:Int) (p4:Int) (p5:List (eL)) (p6:Int) (p7:Int) (p8:Int) (p9:List (List ((Int×Int)×Int))):f140.l0 k (n+1) p0 p1 p2 p3 p4 p5 p6 p7 p8 p9 =
 bif decide (p3<p2) then (chk (decide ((0:Int)≤p3∧p3<(↑p1.length:Int))) (bif (rd qR p1 p3).2.1==p0 then (f140.l0 k n p0 p1 p2 (Go.IntKind.i64.wrap (p3+(1:Int))) p4 p5 p6 p7 p8 p9) else (f140.l1 k k n p0 p1 p2 p3 ((rd qR p1 p3).2.2.2.2.2.2) ((↑(List.length (rd qR p1 p3).2.2.2.2.2.2):Int)) 0 p4 p5 p6 p7 p8 p9))) else (some (.own (.list (.pair qS qI)) p9)):=by kernel_rfl
theorem f140.l1_eq (k n m0:Nat) (p0:Int) (p1:List (eR)) (p2:Int) (p3:Int) (p4:List (eC)) (p5:Int) (p6:Int) (p7:Int) (p8:List (eL)) (p9:Int) (p10:Int) (p11:Int) (p12:List (List ((Int×Int)×Int))):f140.l1 k (n+1) m0 p0 p1 p2 p3 p4 p5 p6 p7 p8 p9 p10 p11 p12 =
 bif decide (p6<p5) then (chk (decide ((0:Int)≤p6∧p6<(↑p4.length:Int))) (f140.l2 k k m0 n p0 p1 p2 p3 p4 p5 p6 ((↑(loadsOf (p7,p8) (rd qC p4 p6).2).1.length:Int)) 0 p7 p8 p9 p10 p11 p12 ((rd qC p4 p6).1.1) ((rd qC p4 p6).1.2) ((rd qC p4 p6).2) ((loadsOf (p7,p8) (rd qC p4 p6).2).1))) else (f140.l0 k m0 p0 p1 p2 (Go.IntKind.i64.wrap (p3+(1:Int))) p7 p8 p9 p10 p11 p12):=by kernel_rfl
theorem f140.l2_eq (k n m0 m1:Nat) (p0:Int) (p1:List (eR)) (p2:Int) (p3:Int) (p4:List (eC)) (p5:Int) (p6:Int) (p7:Int) (p8:Int) (p9:Int) (p10:List (eL)) (p11:Int) (p12:Int) (p13:Int) (p14:List (List ((Int×Int)×Int))) (p15:Int) (p16:Int) (p17:List (eP)) (p18:List Int):f140.l2 k (n+1) m0 m1 p0 p1 p2 p3 p4 p5 p6 p7 p8 p9 p10 p11 p12 p13 p14 p15 p16 p17 p18 =
 bif decide (p8<p7) then (chk (decide ((0:Int)≤p8∧p8<(↑p18.length:Int))) (bif decide (rd qI p18 (↑p8.toNat:Int)>(0:Int)) then (chk (decide ((0:Int)≤p8∧p8<(↑p14.length:Int))) (both (chk (decide ((Option.rec [] (fun val=>val) p14[p8.toNat]? ++ [((p15,p16),rd qI p18 (↑p8.toNat:Int))]).length*24≤140737488355328)) (chk (decide ((0:Int)≤p8∧p8<(↑p14.length:Int))) (chk (p8.toNat.beq p8.toNat) (f140.l2 k n m0 m1 p0 p1 p2 p3 p4 p5 p6 p7 (Go.IntKind.i64.wrap (p8+(1:Int))) p9 p10 p11 p12 p13 (p14.set p8.toNat (Option.rec [] (fun val=>val) p14[p8.toNat]? ++ [((p15,p16),rd qI p18 (↑p8.toNat:Int))])) p15 p16 p17 p18)))) (both (chk (decide ((Option.rec [] (fun val=>val) p14[p8.toNat]? ++ [((p15,p16),rd qI p18 (↑p8.toNat:Int))]).length*24≤140737488355328)) (chk (decide ((0:Int)≤p8∧p8<(↑p14.length:Int))) (chk (p8.toNat.beq p8.toNat) (f140.l2 k n m0 m1 p0 p1 p2 p3 p4 p5 p6 p7 (Go.IntKind.i64.wrap (p8+(1:Int))) p9 p10 p11 p12 p13 (p14.set p8.toNat (Option.rec [] (fun val=>val) p14[p8.toNat]? ++ [((p15,p16),rd qI p18 (↑p8.toNat:Int))])) p15 p16 p17 p18)))) (both (chk (decide ((Option.rec [] (fun val=>val) p14[p8.toNat]? ++ [((p15,p16),rd qI p18 (↑p8.toNat:Int))]).length*24≤140737488355328)) (chk (decide ((0:Int)≤p8∧p8<(↑p14.length:Int))) (chk (p8.toNat.beq p8.toNat) (f140.l2 k n m0 m1 p0 p1 p2 p3 p4 p5 p6 p7 (Go.IntKind.i64.wrap (p8+(1:Int))) p9 p10 p11 p12 p13 (p14.set p8.toNat (Option.rec [] (fun val=>val) p14[p8.toNat]? ++ [((p15,p16),rd qI p18 (↑p8.toNat:Int))])) p15 p16 p17 p18)))) (chk (decide ((Option.rec [] (fun val=>val) p14[p8.toNat]? ++ [((p15,p16),rd qI p18 (↑p8.toNat:Int))]).length*24≤140737488355328)) (chk (decide ((0:Int)≤p8∧p8<(↑p14.length:Int))) (chk (p8.toNat.beq p8.toNat) (f140.l2 k n m0 m1 p0 p1 p2 p3 p4 p5 p6 p7 (Go.IntKind.i64.wrap (p8+(1:Int))) p9 p10 p11 p12 p13 (p14.set p8.toNat (Option.rec [] (fun val=>val) p14[p8.toNat]? ++ [((p15,p16),rd qI p18 (↑p8.toNat:Int))])) p15 p16 p17 p18)))))))) else (f140.l2 k n m0 m1 p0 p1 p2 p3 p4 p5 p6 p7 (Go.IntKind.i64.wrap (p8+(1:Int))) p9 p10 p11 p12 p13 p14 p15 p16 p17 p18))) else (f140.l1 k m1 m0 p0 p1 p2 p3 p4 p5 (Go.IntKind.i64.wrap (p6+(1:Int))) p9 p10 p11 p12 p13 p14):=by kernel_rfl
theorem f140.eq (k:Nat) (x0:(Int×List (eL)) ×
 Int×Int×Int×List (eR)) (x1:Int):evFn (f140.E k) 9 140 Tryz.f140 (encL [(.pair (.pair qI (.list qL)) (.pair qI (.pair qI (.pair qI (.list qR))))),qI] (x0,x1)) =
 chk (decide ((0:Int)≤(↑(x0.1.2.length):Int)∧(↑(x0.1.2.length):Int)≤(↑(x0.1.2.length):Int))) (chk (decide (0<24∧(↑(x0.1.2.length):Int)*(↑(24:Nat):Int)≤(140737488355328:Int))) (f140.l0 k k x1 x0.2.2.2.2 ((↑(x0.2.2.2.2.length):Int)) 0 x0.1.1 x0.1.2 x0.2.1 x0.2.2.1 x0.2.2.2.1 (List.replicate (↑(x0.1.2.length):Int).toNat []))):=by kernel_rfl
theorem f140.inl (k:Nat):InlOk Tryz.prog (f140.E k):=inl_nil
theorem f140.sums (k:Nat):SumsOk Tryz.prog (f140.E k):=(sums_cons ok189 sums_nil)
noncomputable def f202.E (k:Nat):Env:=mkEnv tt [(77,S77),(191,S191),(192,S192)] [] [(202,14,[.kill (rg [(0,8),(11,44),(48,59)]),.tidy]),(202,5,[.kill (rg [(0,1),(3,5),(7,18),(22,59)]),.tidy])] [] k
noncomputable def f202.code:Go.Code:=cd Tryz.f202
noncomputable def f202.l0 (k n:Nat) (p0:List Int) (p1:Int) (p2:Int) (p3:Int) (p4:Int) (p5:List Int):Option V :=
 atPath (f202.E k) n ⟨(.u::.u::(.ptr 524304 (0) (0))::.u::.u::.u::(.slw 1572880)::.u::.u::.u::.u::.u::.u::.u::.u::.u::.u::.u::.u::(.ro qI p0)::(.int .i64 p1)::(.int .i64 p2)::un 38),[],[(524304,.box [(.int .i64 p3),(.int .i64 p4)]),(1572880,.row qI p5)]⟩ 9 0 202 [.c 1,.c 1,.c 1,.c 0,.c 1,.c 0] [] f202.code (finK tt Tryz.f202)
noncomputable def f202.l1 (k n:Nat) (p0:Int) (p1:Nat) (p2:Int) (p3:Int) (p4:List (Int×Int)) (p5:List Int):Option V :=
 atPath (f202.E k) n ⟨(.u::.u::.u::.u::.u::.u::.u::.u::.u::(.slw 2359312)::(.int .i64 p0)::.u::.u::.u::.u::.u::.u::.u::.u::.u::.u::.u::.u::.u::.u::.u::.u::.u::.u::.u::.u::.u::.u::.u::.u::.u::.u::.u::.u::.u::.u::.u::.u::.u::.u::(.sl 11796496 (0) p1)::(.int .i64 p2)::(.int .i64 p3)::un 12),[],[(2359312,.row qS p4),(11796496,.row qI p5)]⟩ 9 0 202 [.c 1,.c 1,.c 1,.c 1,.c 1,.c 1,.c 1,.c 0,.c 1,.c 0] [] f202.code (finK tt Tryz.f202)
theorem f202.l0_eq (k n:Nat) (p0:List Int) (p1:Int) (p2:Int) (p3:Int) (p4:Int) (p5:List Int):f202.l0 k (n+1) p0 p1 p2 p3 p4 p5 =
 bif decide (p2<p1) then (chk (decide ((0:Int)≤p2∧p2<(↑p0.length:Int))) (bif decide (p3<rd qI p0 p2) then (bif decide (rd qI p0 p2<p4) then (chk (decide ((p5++[rd qI p0 p2]).length*8≤140737488355328)) (f202.l0 k n p0 p1 (Go.IntKind.i64.wrap (p2+(1:Int))) p3 p4 (p5++[rd qI p0 p2]))) else (f202.l0 k n p0 p1 (Go.IntKind.i64.wrap (p2+(1:Int))) p3 p4 p5)) else (f202.l0 k n p0 p1 (Go.IntKind.i64.wrap (p2+(1:Int))) p3 p4 p5))) else ((chk (decide (0<p5.length∧p5.length<4611686018427387904)) (some (sortI p5))).bind (fun y0=>(chk (decide (0<y0.length∧y0.length<4611686018427387904)) (some (Go.Lib.compact y0++List.replicate (y0.length - (Go.Lib.compact y0).length) (0:Int)))).bind (fun y1=>f202.l1 k k p3 ((Go.Lib.compact y0).length) ((↑(Go.Lib.compact y0).length:Int)) 0 ([]) y1))):=by kernel_rfl
theorem f202.l1_eq (k n:Nat) (p0:Int) (p1:Nat) (p2:Int) (p3:Int) (p4:List (Int×Int)) (p5:List Int):f202.l1 k (n+1) p0 p1 p2 p3 p4 p5 =
 bif decide (p3<p2) then (chk (decide ((0:Int)≤p3∧p3<(↑p1:Int))) (chk (decide ((p4++[(p0,rd qI p5 (↑(0+p3.toNat):Int))]).length*16≤140737488355328)) (f202.l1 k n (rd qI p5 (↑(0+p3.toNat):Int)) p1 p2 (Go.IntKind.i64.wrap (p3+(1:Int))) (p4++[(p0,rd qI p5 (↑(0+p3.toNat):Int))]) p5))) else (some (.tup [(.own qS p4),(.int .i64 0)])):=by kernel_rfl
theorem f202.eq (k:Nat) (x0:Int×Int) (x1:List Int):evFn (f202.E k) 9 202 Tryz.f202 (encL [qS,(.list qI)] (x0,x1)) =
 bif !spanMay x0 then (some (.tup [(.own qS ([])),(.int .i64 200)])) else (f202.l0 k k x1 ((↑x1.length:Int)) 0 x0.1 x0.2 ([x0.2])):=by kernel_rfl
theorem f202.inl (k:Nat):InlOk Tryz.prog (f202.E k):=inl_nil
theorem f202.sums (k:Nat):SumsOk Tryz.prog (f202.E k):=(sums_cons ok77 (sums_cons ok191 (sums_cons ok192 sums_nil)))
noncomputable def f156.E (k:Nat):Env:=mkEnv tt [(199,S199)] [] [] [] k
noncomputable def f156.code:Go.Code:=cd Tryz.f156
theorem f156.eq (k:Nat) (x0:Int×List (eL)):evFn (f156.E k) 9 156 Tryz.f156 (encL [(.pair qI (.list qL))] x0) =
 (chk (decide (x0.2.length*24≤140737488355328)) (some x0.2)).bind (fun y0=>some (.agg [(.int .i64 x0.1),(.own qL y0)])):=by kernel_rfl
theorem f156.inl (k:Nat):InlOk Tryz.prog (f156.E k):=inl_nil
theorem f156.sums (k:Nat):SumsOk Tryz.prog (f156.E k):=(sums_cons ok199 sums_nil)
end
section
open Go
def resMayB (b:Bk) (r:Rs):Bool :=
 spanMay r.1&&(decide (b.now<r.1.2)&&(decide (1≤r.id∧r.id<b.next)&&(decide (0≤r.owner∧r.owner<4)&&(decide (1≤(r.pcs.length:Int)∧(r.pcs.length:Int)≤b.segs) &&
  (wholeL r.1.2 r.1.1 r.pcs&&r.pcs.all fun p=>mayB b.1 r.src r.dst r.rate p.2)))))
theorem f139.l0_is (k:Nat) (ps:List Pc) (x1:Int) (x2:List Lk) (x3 x4 x5:Int) (x6:List Rs) (x7 x8 x9 x10:Int) (s d r:Int) (hl:ps.length<4611686018427387904):∀ (n i:Nat),i≤ps.length→ps.length<n+i →
  f139.l0 k n ps ps.length i x1 x2 x3 x4 x5 x6 x7 x8 x9 x10 s d r=some (.bool ((ps.drop i).all fun p=>mayB (x1,x2) s d r p.2))
 |0,i,h,h'=>by omega
 |n+1,i,h,h'=>by
  rw [f139.l0_eq]
  by_cases hlt:i<ps.length
  ·have hx:=gE hlt
   rw [idx_lt' hx,cT,idx_in hx,kT,rd_some (t:=tPc) hx,wrap_succ (by omega),List.drop_eq_getElem_cons hlt,List.all_cons]
   cases mayB (x1,x2) s d r ps[i].2 with
   |false=>rw [nF,cT,fA]
   |true =>
    rw [nT,cF,tA]
    exact f139.l0_is k ps x1 x2 x3 x4 x5 x6 x7 x8 x9 x10 s d r hl n (i+1) (by omega) (by omega)
  ·obtain rfl:i=ps.length:=by omega
   rw [end_lt,cF,List.drop_length]
   rfl
theorem ors {α:Type} (a b c d:Prop) [Decidable a] [Decidable b] [Decidable c] [Decidable d] (h:c∧d↔¬ a∧¬ b) (x y:α):(bif decide a then x else bif decide b then x else y)=bif decide (c∧d) then y else x:=by
 by_cases ha:a <;> by_cases hb:b
 ·rw [dT ha,cond_true,dF (fun hh=>(h.1 hh).1 ha),cond_false]
 ·rw [dT ha,cond_true,dF (fun hh=>(h.1 hh).1 ha),cond_false]
 ·rw [dF ha,cond_false,dT hb,cond_true,dF (fun hh=>(h.1 hh).2 hb),cond_false]
 ·rw [dF ha,cond_false,dF hb,cond_false,dT (h.2 ⟨ha,hb⟩),cond_true]
noncomputable def S139:Summ:=summ [tBk,tRs] Bool (fun (d:Bk×Rs)=>chk (decide (d.2.pcs.length<4611686018427387904)) (some (resMayB d.1 d.2))) .bool
theorem ok139:SumOk Tryz.prog 139 S139 :=
 sumq f139.E (fn:=Tryz.f139) (code:=f139.code) f139.sums f139.inl fun (d:Bk×Rs) x hx=>by
  obtain ⟨b,r⟩:=d
  obtain ⟨hb,hx⟩:=chk_some hx
  obtain rfl:=oJ hx
  have hb':r.2.2.2.2.2.2.length<4611686018427387904:=oD hb
  refine ⟨r.2.2.2.2.2.2.length+1,(f139.eq _ b r).trans ?_⟩
  show _=some (V.bool (resMayB b r))
  have h0:=f139.l0_is (r.2.2.2.2.2.2.length+1) r.2.2.2.2.2.2 b.1.1 b.1.2 b.2.1 b.2.2.1 b.2.2.2.1 b.2.2.2.2 r.1.1 r.1.2 r.2.1 r.2.2.1 r.2.2.2.1 r.2.2.2.2.1 r.2.2.2.2.2.1 hb' (r.2.2.2.2.2.2.length+1) 0 (by omega) (by omega)
  rw [show ((0:Nat):Int)=0 from rfl] at h0
  rw [h0,List.drop_zero,dT hb',kT,bS]
  unfold resMayB Bk.now Bk.next Bk.segs Rs.id Rs.owner Rs.pcs Rs.src Rs.dst Rs.rate
  rw [ors (r.2.2.2.2.2.2.length<(1:Int)) _ (1≤(r.2.2.2.2.2.2.length:Int)) ((r.2.2.2.2.2.2.length:Int)≤b.2.1) (by omega),ors (r.2.2.1<0) _ (0≤r.2.2.1) (r.2.2.1<4) (by omega),ors (r.2.1<1) _ (1≤r.2.1) (r.2.1<b.2.2.2.1) (by omega),
   show decide (r.1.2≤b.2.2.1)=!decide (b.2.2.1<r.1.2) by rw [← decide_not];exact decide_eq_decide.2 (by omega)]
  cases spanMay r.1 <;> cases decide (b.2.2.1<r.1.2) <;> cases decide (1≤r.2.1∧r.2.1<b.2.2.2.1) <;> cases decide (0≤r.2.2.1∧r.2.2.1<4) <;> cases decide (1≤(r.2.2.2.2.2.2.length:Int)∧(r.2.2.2.2.2.2.length:Int)≤b.2.1) <;> cases wholeL r.1.2 r.1.1 r.2.2.2.2.2.2 <;> rfl
def wtsP (g:Gr) (i:Nat) (p:Pc):List Wt:=bif decide (0<(loadsOf g p.2).1.getD i 0) then [(p.1,(loadsOf g p.2).1.getD i 0)] else []
def wtsR (g:Gr) (i:Nat) (r:Rs):List Wt:=r.pcs.flatMap (wtsP g i)
def wtsB (g:Gr) (but:Int) (i:Nat) (rs:List Rs):List Wt:=(rs.filter fun r=>r.id != but).flatMap (wtsR g i)
def weightsOf (b:Bk) (but:Int):List (List Wt):=(List.range b.1.2.length).map fun i=>wtsB b.1 but i b.list
def fewB (b:Bk):Bool:=decide (b.1.2.length≤16)&&(decide (b.list.length≤8)&&b.list.all fun r=>decide (r.pcs.length≤8))
def addW (o:List (List Wt)) (f:Nat→List Wt):List (List Wt):=o.zipIdx.map fun x=>x.1++f x.2
theorem addW_get (o:List (List Wt)) (f:Nat→List Wt) (i:Nat):(addW o f)[i]? = (o[i]?).map fun l=>l++f i:=by
 unfold addW
 rw [List.getElem?_map,List.getElem?_zipIdx]
 cases o[i]? <;> simp
theorem addW_len (o:List (List Wt)) (f:Nat→List Wt):(addW o f).length=o.length:=by unfold addW;simp
theorem addW_add (o:List (List Wt)) (f g:Nat→List Wt):addW (addW o f) g=addW o fun i=>f i++g i:=by
 refine List.ext_getElem? fun i=>?_
 rw [addW_get,addW_get,addW_get]
 cases o[i]? with
 |none=>rfl
 |some l=>simp
theorem addW_congr {o:List (List Wt)} {f g:Nat→List Wt} (h:∀ i,i<o.length→f i=g i):addW o f=addW o g:=by
 refine List.ext_getElem? fun i=>?_
 rw [addW_get,addW_get]
 by_cases hi:i<o.length
 ·rw [h i hi]
 ·rw [List.getElem?_eq_none (by omega)];rfl
theorem addW_nil (o:List (List Wt)):addW o (fun _=>[])=o:=by
 refine List.ext_getElem? fun i=>?_
 rw [addW_get]
 cases o[i]? <;> simp
def smallW (o:List (List Wt)) (m j:Nat):Prop:=∀ i l,o[i]? = some l→l.length≤m+if i<j then 1 else 0
def fromW (L:List Int) (s:Int×Int) (j i:Nat):List Wt:=bif decide (j≤i)&&decide (0<L.getD i 0) then [(s,L.getD i 0)] else []
theorem smallW_next {o:List (List Wt)} {m j:Nat} (h:smallW o m j):smallW o m (j+1):=by
 intro i l hl
 have:=h i l hl
 split at this <;> split <;> omega
theorem smallW_add {o:List (List Wt)} {m:Nat} {f:Nat→List Wt} (h:smallW o m 0) (hf:∀ i,(f i).length≤1):smallW (addW o f) (m+1) 0:=by
 intro i l hl
 rw [addW_get] at hl
 cases ho:o[i]? with
 |none=>rw [ho] at hl;cases hl
 |some l' =>
  rw [ho] at hl
  simp only [Option.map_some,sI] at hl
  subst hl
  have h1:=h i l' ho
  have h2:=hf i
  rw [lA]
  simp only [Nat.not_lt_zero,if_false] at h1 ⊢
  omega
theorem fromW_len (L:List Int) (s:Int×Int) (j i:Nat):(fromW L s j i).length≤1:=by
 unfold fromW
 cases decide (j≤i)&&decide (0<L.getD i 0)
 ·exact Nat.zero_le _
 ·exact Nat.le_refl _
theorem f140.l2_is (k m0 m1:Nat) (x0:Int) (rs:List Rs) (x2 x3:Int) (ps:List Pc) (x5 x6:Int) (x9:Int) (gl:List Lk) (x11 x12 x13:Int) (s:Int×Int) (pp:List Pt) (L:List Int) (hL:L.length≤16) (m:Nat) (hm:m≤4096):∀ (n j:Nat) (o:List (List Wt)),j≤L.length→L.length<n+j→L.length≤o.length→smallW o m j →
  f140.l2 k n m0 m1 x0 rs x2 x3 ps x5 x6 L.length j x9 gl x11 x12 x13 o s.1 s.2 pp L=f140.l1 k m1 m0 x0 rs x2 x3 ps x5 (Go.IntKind.i64.wrap (x6+1)) x9 gl x11 x12 x13 (addW o (fromW L s j))
 |0,j,o,h,h',_,_=>by omega
 |n+1,j,o,h,h',ho,hs=>by
  rw [f140.l2_eq]
  by_cases hlt:j<L.length
  ·have hx:=gE hlt
   have hy:o[j]? = some o[j]:=gE (by omega)
   have hg:L.getD j 0=L[j]:=by rw [List.getD_eq_getElem?_getD,hx];rfl
   rw [idx_lt' hx,cT,idx_in hx,kT,Int.toNat_natCast,rd_some (t:=tI) hx,wrap_succ (by omega)]
   simp only [both_self]
   have hstep:∀ i,i ≠ j→fromW L s (j+1) i=fromW L s j i:=by
    intro i hij
    unfold fromW
    rw [show decide (j+1≤i)=decide (j≤i) from decide_eq_decide.2 (by omega)]
   have hnone:fromW L s (j+1) j=[]:=by
    unfold fromW
    rw [dF (by omega:¬ j+1≤j),fA,cond_false]
   by_cases hp:L[j]>0
   ·have hol:=hs j _ hy
    have hj:fromW L s j j=[(s,L[j])]:=by
     unfold fromW
     rw [dT (Nat.le_refl j),hg,dT (show 0<L[j] from hp),tA,cond_true]
    rw [dT hp,cT,idx_in hy,kT,hy]
    dsimp only
    rw [dT (by rw [lA,List.length_singleton];split at hol <;> omega),kT,kT,show Nat.beq j j=true by simp,kT]
    rw [f140.l2_is k m0 m1 x0 rs x2 x3 ps x5 x6 x9 gl x11 x12 x13 s pp L hL m hm n (j+1) (o.set j (o[j]++[((s.1,s.2),L[j])])) (by omega) (by omega) (by rw [List.length_set];exact ho) (by
     intro i l hl
     rw [List.getElem?_set] at hl
     by_cases hij:j=i
     ·subst hij
      rw [if_pos rfl,if_pos (by omega)] at hl
      injection hl with hl
      subst hl
      rw [if_neg (by omega)] at hol
      rw [if_pos (by omega),lA,List.length_singleton]
      omega
     ·rw [if_neg hij] at hl
      exact smallW_next hs i l hl)]
    congr 1
    refine List.ext_getElem? fun i=>?_
    rw [addW_get,addW_get,List.getElem?_set]
    by_cases hij:j=i
    ·subst hij
     rw [if_pos rfl,if_pos (by omega),hy,hnone,hj]
     simp
    ·rw [if_neg hij,hstep i (Ne.symm hij)]
   ·have hj:fromW L s j j=[]:=by
     unfold fromW
     rw [hg,dF (show ¬ 0<L[j] from hp),Bool.and_false,cond_false]
    rw [dF hp,cF,f140.l2_is k m0 m1 x0 rs x2 x3 ps x5 x6 x9 gl x11 x12 x13 s pp L hL m hm n (j+1) o (by omega) (by omega) ho (smallW_next hs)]
    congr 1
    refine addW_congr fun i _=>?_
    by_cases hij:i=j
    ·subst hij;rw [hj,hnone]
    ·exact hstep i hij
  ·obtain rfl:j=L.length:=by omega
   rw [end_lt,cF]
   congr 1
   have:addW o (fromW L s L.length)=addW o fun _=>[]:=addW_congr fun i _=>by
    unfold fromW
    by_cases hi:L.length≤i
    ·rw [show L.getD i 0=0 by rw [List.getD_eq_getElem?_getD,List.getElem?_eq_none hi];rfl]
     simp
    ·rw [dF hi,fA,cond_false]
   rw [this,addW_nil]
theorem fromW_zero (g:Gr) (p:Pc):fromW (loadsOf g p.2).1 p.1 0=fun i=>wtsP g i p:=by
 funext i
 unfold fromW wtsP
 rw [dT (Nat.zero_le i),tA]
theorem wtsP_len (g:Gr) (p:Pc) (i:Nat):(wtsP g i p).length≤1:=by
 rw [← congrFun (fromW_zero g p) i]
 exact fromW_len _ _ _ _
theorem loads_len (g:Gr) (ps:List Pt):(loadsOf g ps).1.length≤g.2.length:=by
 unfold loadsOf
 cases bForm g ps with
 |false=>rw [cond_false];exact Nat.zero_le _
 |true =>
  rw [cond_true]
  cases ha:addPs ps (List.replicate g.2.length 0) with
  |none=>exact Nat.zero_le _
  |some o =>
   have:=addPs_len ps ha
   rw [List.length_replicate] at this
   exact Nat.le_of_eq this
theorem f140.l1_is (k m0:Nat) (hk:16<k) (x0:Int) (rs:List Rs) (x2 x3:Int) (ps:List Pc) (hps:ps.length≤8) (g:Gr) (hg:g.2.length≤16) (x11 x12 x13:Int) (m:Nat) (hm:m≤1000):∀ (n j:Nat) (o:List (List Wt)),j≤ps.length→ps.length<n+j→o.length=g.2.length→smallW o (m+j) 0 →
  f140.l1 k n m0 x0 rs x2 x3 ps ps.length j g.1 g.2 x11 x12 x13 o=f140.l0 k m0 x0 rs x2 (Go.IntKind.i64.wrap (x3+1)) g.1 g.2 x11 x12 x13 (addW o fun i=>(ps.drop j).flatMap (wtsP g i))
 |0,j,o,h,h',_,_=>by omega
 |n+1,j,o,h,h',ho,hs=>by
  rw [f140.l1_eq]
  by_cases hlt:j<ps.length
  ·have hx:=gE hlt
   rw [idx_lt' hx,cT,idx_in hx,kT,rd_some (t:=tPc) hx]
   have hlen:(loadsOf g ps[j].2).1.length≤g.2.length:=loads_len _ _
   have h2:=f140.l2_is k m0 n x0 rs x2 x3 ps ps.length j g.1 g.2 x11 x12 x13 ps[j].1 ps[j].2 (loadsOf g ps[j].2).1 (by omega) (m+j) (by omega) k 0 o (by omega) (by omega) (by omega) hs
   rw [show ((0:Nat):Int)=0 from rfl] at h2
   rw [show ((g.1,g.2):Gr)=g from rfl,h2,wrap_succ (by omega),f140.l1_is k m0 hk x0 rs x2 x3 ps hps g hg x11 x12 x13 m hm n (j+1) _ (by omega) (by omega) (by rw [addW_len];exact ho) (smallW_add hs (fromW_len _ _ _)),addW_add,fromW_zero,List.drop_eq_getElem_cons hlt]
   rfl
  ·obtain rfl:j=ps.length:=by omega
   rw [end_lt,cF,List.drop_length]
   congr 1
   exact (addW_nil o).symm
theorem f140.l0_is (k:Nat) (hk:16<k) (but:Int) (rs:List Rs) (hrs:rs.length≤8) (hps:∀ r∈rs,r.pcs.length≤8) (g:Gr) (hg:g.2.length≤16) (x11 x12 x13:Int):∀ (n i:Nat) (o:List (List Wt)),i≤rs.length→rs.length<n+i→o.length=g.2.length→smallW o (8*i) 0 →
  f140.l0 k n but rs rs.length i g.1 g.2 x11 x12 x13 o=some (.own (.list tW) (addW o fun q=>wtsB g but q (rs.drop i)))
 |0,i,o,h,h',_,_=>by omega
 |n+1,i,o,h,h',ho,hs=>by
  rw [f140.l0_eq]
  by_cases hlt:i<rs.length
  ·have hx:=gE hlt
   have hp:=hps _ (List.getElem_mem hlt)
   have hp':rs[i].2.2.2.2.2.2.length≤8:=hp
   rw [idx_lt' hx,cT,idx_in hx,kT,rd_some (t:=tRs) hx]
   cases hc:rs[i].2.1==but with
   |true =>
    rw [cT,wrap_succ (by omega),f140.l0_is k hk but rs hrs hps g hg x11 x12 x13 n (i+1) o (by omega) (by omega) ho (fun a l hl=>by have:=hs a l hl;simp only [Nat.not_lt_zero,if_false] at this ⊢;omega),List.drop_eq_getElem_cons hlt]
    congr 3
    funext q
    unfold wtsB
    rw [List.filter_cons,show (rs[i].id != but)=false by simp only [bne,Rs.id];rw [hc];rfl]
    rfl
   |false =>
    have h1:=f140.l1_is k n hk but rs rs.length i rs[i].2.2.2.2.2.2 hp' g hg x11 x12 x13 (8*i) (by omega) k 0 o (by omega) (by omega) ho hs
    rw [show ((0:Nat):Int)=0 from rfl] at h1
    rw [cF,h1,List.drop_zero,wrap_succ (by omega),f140.l0_is k hk but rs hrs hps g hg x11 x12 x13 n (i+1) _ (by omega) (by omega) (by rw [addW_len];exact ho) ?_,addW_add,List.drop_eq_getElem_cons hlt]
    ·congr 3
     funext q
     unfold wtsB
     rw [List.filter_cons,show (rs[i].id != but)=true by simp only [bne,Rs.id];rw [hc];rfl,if_pos rfl,List.flatMap_cons]
     rfl
    ·intro a l hl
     rw [addW_get] at hl
     cases hoa:o[a]? with
     |none=>rw [hoa] at hl;cases hl
     |some l' =>
      rw [hoa] at hl
      simp only [Option.map_some,sI] at hl
      subst hl
      have:=hs a l' hoa
      have h3:∀ qs:List Pc,(qs.flatMap (wtsP g a)).length≤qs.length:=by
       intro qs
       induction qs with
       |nil=>exact Nat.le_refl _
       |cons q qs ih =>
        rw [List.flatMap_cons,lA,List.length_cons]
        have:=wtsP_len g q a
        omega
      have h4:=h3 rs[i].2.2.2.2.2.2
      simp only [Nat.not_lt_zero,if_false] at this ⊢
      rw [lA]
      omega
  ·obtain rfl:i=rs.length:=by omega
   rw [end_lt,cF,List.drop_length]
   congr 2
   exact (addW_nil o).symm
noncomputable def S140:Summ:=summ [tBk,tI] (List (List Wt)) (fun (d:Bk×Int)=>chk (fewB d.1) (some (weightsOf d.1 d.2))) (.own (.list tW))
theorem ok140:SumOk Tryz.prog 140 S140 :=
 sumq f140.E (fn:=Tryz.f140) (code:=f140.code) f140.sums f140.inl fun (d:Bk×Int) x hx=>by
  obtain ⟨b,but⟩:=d
  obtain ⟨hb,hx⟩:=chk_some hx
  obtain rfl:=oJ hx
  have hb:fewB b=true:=hb
  unfold fewB at hb
  simp only [bA,dE,List.all_eq_true] at hb
  obtain ⟨h1,h2,h3⟩:=hb
  refine ⟨17,(f140.eq _ b but).trans ?_⟩
  rw [dT (show (0:Int)≤(b.1.2.length:Int)∧(b.1.2.length:Int)≤(b.1.2.length:Int) by omega),kT,dT (show (0:Nat)<24∧(b.1.2.length:Int)*((24:Nat):Int)≤140737488355328 by omega),kT,Int.toNat_natCast]
  refine (f140.l0_is 17 (by omega) but b.2.2.2.2 h2 h3 b.1 h1 b.2.1 b.2.2.1 b.2.2.2.1 17 0 (List.replicate b.1.2.length []) (by omega) (by have:b.2.2.2.2.length≤8:=h2;omega) (by simp) (fun i l hl=>by
   rw [List.getElem?_replicate] at hl
   split at hl
   ·injection hl with hl;subst hl;exact Nat.zero_le _
   ·cases hl)).trans ?_
  show some (V.own (.list tW) _)=some (V.own (.list tW) (weightsOf b but))
  congr 2
  unfold weightsOf
  rw [List.drop_zero]
  refine List.ext_getElem? fun i=>?_
  rw [addW_get,List.getElem?_map,List.getElem?_replicate]
  by_cases hi:i<b.1.2.length
  ·rw [if_pos hi,List.getElem?_range hi]
   rfl
  ·rw [if_neg hi,List.getElem?_eq_none (by rw [List.length_range];omega)]
   rfl
end
section
open Go
noncomputable def S156:Summ:=summ [tG] Gr (fun (g:Gr)=>chk (decide (g.2.length*24≤140737488355328)) (some g)) (fun g=>.agg [.int .i64 g.1,.own tLk g.2])
theorem ok156:SumOk Tryz.prog 156 S156 :=
 sumq f156.E (fn:=Tryz.f156) (code:=f156.code) f156.sums f156.inl fun (g:Gr) x hx=>by
  obtain ⟨hb,hx⟩:=chk_some hx
  obtain rfl:=oJ hx
  refine ⟨0,(f156.eq 0 g).trans ?_⟩
  rw [show decide (List.length g.2*24≤140737488355328)=true from hb,kT,bS]
def rateOn (link:Int) (ps:List Pt):Int:=((ps.filter fun p=>amongB p.2 link).map fun p=>p.1).sum
def loadPs (link t:Int) (ps:List Pc):Int:=((ps.filter fun p=>hasAt p.1 t).map fun p=>rateOn link p.2).sum
def loadR (r:Rs) (link t:Int):Int:=loadPs link t r.pcs
def goodPt (p:Pt):Bool:=rateB p.1&&decide (p.2.length≤64)
def goodPc (p:Pc):Bool:=decide (p.2.length≤16)&&p.2.all goodPt
def goodR (r:Rs):Bool:=decide (r.pcs.length≤8)&&r.pcs.all goodPc
theorem rateOn_cons (link:Int) (p:Pt) (ps:List Pt):rateOn link (p::ps)=(bif amongB p.2 link then p.1 else 0)+rateOn link ps:=by
 unfold rateOn
 rw [List.filter_cons]
 cases amongB p.2 link
 ·simp
 ·simp
theorem rateOn_pos {link:Int}:∀ {ps:List Pt},ps.all goodPt=true→0≤rateOn link ps
 | [],_=>by simp [rateOn]
 |p::ps,h=>by
  simp only [List.all_cons,bA] at h
  have h1:=rateOn_pos (link:=link) h.2
  have h2:0≤p.1∧p.1≤maxRate:=oD (bA _ _ |>.mp h.1).1
  rw [rateOn_cons]
  cases amongB p.2 link
  ·simpa using h1
  ·simp only [cond_true];omega
theorem loadPs_cons (link t:Int) (p:Pc) (ps:List Pc):loadPs link t (p::ps)=(bif hasAt p.1 t then rateOn link p.2 else 0)+loadPs link t ps:=by
 unfold loadPs
 rw [List.filter_cons]
 cases hasAt p.1 t
 ·simp
 ·simp
theorem loadPs_pos {link t:Int}:∀ {ps:List Pc},ps.all goodPc=true→0≤loadPs link t ps
 | [],_=>by simp [loadPs]
 |p::ps,h=>by
  simp only [List.all_cons,bA] at h
  have h1:=loadPs_pos (link:=link) (t:=t) h.2
  have h2:=rateOn_pos (link:=link) (bA _ _ |>.mp h.1).2
  rw [loadPs_cons]
  cases hasAt p.1 t
  ·simpa using h1
  ·simp only [cond_true];omega
def spansFrom:Int→List Int→List (Int×Int)
 |_,[]=>[]
 |f,t::ts=>(f,t)::spansFrom t ts
def cutPts (s:Int×Int) (ps:List Int):List Int:=Lib.compact (sortI (s.2::ps.filter fun p=>decide (s.1<p)&&decide (p<s.2)))
def cutsOf (s:Int×Int) (ps:List Int):List (Int×Int)×Int:=bif spanMay s then (spansFrom s.1 (cutPts s ps),0) else ([],200)
theorem f202.l1_is (k:Nat) (P Z:List Int) (hP:P.length≤5000):∀ (n i:Nat) (f:Int) (out:List (Int×Int)),i≤P.length→P.length<n+i→out.length≤i →
  f202.l1 k n f P.length P.length i out (P++Z)=some (resRE (out++spansFrom f (P.drop i),0))
 |0,i,f,out,h,h',_=>by omega
 |n+1,i,f,out,h,h',ho=>by
  rw [f202.l1_eq]
  by_cases hlt:i<P.length
  ·have hx:=gE hlt
   have hx2:(P++Z)[i]? = some P[i]:=by rw [List.getElem?_append_left hlt,hx]
   rw [idx_lt' hx,cT,idx_in hx,kT,Int.toNat_natCast,Nat.zero_add,rd_some (t:=tI) hx2,wrap_succ (by omega),List.drop_eq_getElem_cons hlt,dT (by rw [lA,List.length_singleton];omega),kT,
    f202.l1_is k P Z hP n (i+1) P[i] (out++[(f,P[i])]) (by omega) (by omega) (by rw [lA,List.length_singleton];omega)]
   simp [spansFrom]
  ·obtain rfl:i=P.length:=by omega
   rw [end_lt,cF,List.drop_length]
   simp [spansFrom]
theorem f202.l0_is (k:Nat) (s:Int×Int) (ps:List Int) (hp:ps.length≤4096) (hk:5000<k):∀ (n i:Nat) (at_:List Int),i≤ps.length→ps.length<n+i→at_.length≤i+1→0<at_.length →
  f202.l0 k n ps ps.length i s.1 s.2 at_=some (resRE (spansFrom s.1 (Lib.compact (sortI (at_++(ps.drop i).filter fun p=>decide (s.1<p)&&decide (p<s.2)))),0))
 |0,i,at_,h,h',_,_=>by omega
 |n+1,i,at_,h,h',ha,h0=>by
  rw [f202.l0_eq]
  by_cases hlt:i<ps.length
  ·have hx:=gE hlt
   have ih:=fun at_ h1 h2=>f202.l0_is k s ps hp hk n (i+1) at_ (by omega) (by omega) h1 h2
   rw [idx_lt' hx,cT,idx_in hx,kT,rd_some (t:=tI) hx,wrap_succ (by omega),List.drop_eq_getElem_cons hlt,List.filter_cons]
   cases decide (s.1<ps[i]) with
   |false=>rw [cF,ih at_ (by omega) h0,fA];rfl
   |true =>
    rw [cT]
    cases decide (ps[i]<s.2) with
    |false=>rw [cF,ih at_ (by omega) h0,Bool.and_false];rfl
    |true =>
     have hl:(at_++[ps[i]]).length=at_.length+1:=by rw [lA];rfl
     rw [cT,dT (by omega),kT,ih (at_++[ps[i]]) (by omega) (by omega),Bool.and_self,if_pos rfl,List.append_assoc]
     rfl
  ·obtain rfl:i=ps.length:=by omega
   have hc:(Lib.compact (sortI at_)).length≤5000:=by
    have:=compact_le (sortI at_)
    rw [sortI_len] at this
    omega
   rw [end_lt,cF,List.drop_length,List.filter_nil,List.append_nil,dT (by omega),kT,bS,sortI_len,dT (by omega),kT,bS]
   exact f202.l1_is k _ _ hc k 0 s.1 [] (by omega) (by omega) (by simp)
noncomputable def S202:Summ:=summ [tSp,tL] (List (Int×Int)×Int) (fun (d:(Int×Int)×List Int)=>chk (decide (d.2.length≤4096)) (some (cutsOf d.1 d.2))) resRE
theorem ok202:SumOk Tryz.prog 202 S202 :=
 sumq f202.E (fn:=Tryz.f202) (code:=f202.code) f202.sums f202.inl fun (d:(Int×Int)×List Int) x hx=>by
  obtain ⟨s,ps⟩:=d
  obtain ⟨hb,hx⟩:=chk_some hx
  obtain rfl:=oJ hx
  have hb:ps.length≤4096:=oD hb
  refine ⟨5001,(f202.eq _ s ps).trans ?_⟩
  show _=some (resRE (cutsOf s ps))
  unfold cutsOf
  cases spanMay s with
  |false=>rw [nF,cT,cond_false]
  |true =>
   rw [nT,cF,cond_true]
   exact f202.l0_is 5001 s ps hb (by omega) 5001 0 [s.2] (by omega) (by omega) (by simp) (by simp)
def nextCut (f:Int) (ps:List Int) (t:Int):Int:=ps.foldl (fun t p=>bif decide (p>f)&&decide (p<t) then p else t) t
def cutR (ps:List Int) (to:Int):Nat→Int→List (Int×Int)
 |0,_=>[]
 |n+1,f=>bif decide (f<to) then (f,nextCut f ps to)::cutR ps to n (nextCut f ps to) else []
theorem nextCut_in:∀ (ps:List Int) (f t:Int),f<t→f<nextCut f ps t∧nextCut f ps t≤t
 | [],f,t,h=>⟨h,Int.le_refl _⟩
 |p::ps,f,t,h=>by
  unfold nextCut
  rw [List.foldl_cons]
  cases hc:decide (p>f)&&decide (p<t) with
  |false=>exact nextCut_in ps f t h
  |true =>
   rw [cond_true]
   simp only [bA,dE] at hc
   have:=nextCut_in ps f p hc.1
   unfold nextCut at this
   omega
theorem cutR_eq (ps:List Int) (to:Int):∀ (P:List Int) (m:Nat) (f:Int),f<to→(to - f).toNat≤m→P.Pairwise (· < ·)→(∀ x,x∈P↔x=to∨(x∈ps∧f<x∧x<to))→cutR ps to m f=spansFrom f P
 |P,0,f,h,hm,_,_=>by omega
 |P,m+1,f,h,hm,hs,hP=>by
  simp only [cutR]
  rw [dT h,cond_true]
  have key:∀ (qs:List Int) (t:Int),f<t→(nextCut f qs t=t∨(nextCut f qs t∈qs∧f<nextCut f qs t))∧nextCut f qs t≤t∧∀ x∈qs,f<x→nextCut f qs t≤x:=by
   intro qs
   induction qs with
   |nil=>intro t ht;exact ⟨.inl rfl,Int.le_refl _,fun x hx=>(List.not_mem_nil hx).elim⟩
   |cons q qs ih =>
    intro t ht
    unfold nextCut
    rw [List.foldl_cons]
    cases hc:decide (q>f)&&decide (q<t) with
    |false =>
     rw [cond_false]
     obtain ⟨i1,i2,i3⟩:=ih t ht
     unfold nextCut at i1 i2 i3
     refine ⟨i1.imp id fun h=>⟨List.mem_cons_of_mem _ h.1,h.2⟩,i2,fun x hx hfx=>?_⟩
     rcases List.mem_cons.1 hx with rfl|hx
     ·have:¬ (x>f∧x<t):=fun hh=>by rw [dT hh.1,dT hh.2] at hc;cases hc
      omega
     ·exact i3 x hx hfx
    |true =>
     rw [cond_true]
     simp only [bA,dE] at hc
     obtain ⟨i1,i2,i3⟩:=ih q hc.1
     unfold nextCut at i1 i2 i3
     refine ⟨.inr ?_,by omega,fun x hx hfx=>?_⟩
     ·rcases i1 with i1|i1
      ·rw [i1];exact ⟨by simp,hc.1⟩
      ·exact ⟨List.mem_cons_of_mem _ i1.1,i1.2⟩
     ·rcases List.mem_cons.1 hx with rfl|hx
      ·exact i2
      ·exact i3 x hx hfx
  obtain ⟨k1,k2,k3⟩:=key ps to h
  have k0:=nextCut_in ps f to h
  generalize nextCut f ps to=t at *
  cases P with
  |nil=>exact absurd ((hP to).2 (.inl rfl)) (List.not_mem_nil)
  |cons p P =>
   rw [List.pairwise_cons] at hs
   have hpt:p=t:=by
    have htm:t∈p::P:=by
     rw [hP]
     rcases k1 with k1|k1
     ·exact .inl k1
     ·rcases Int.lt_or_eq_of_le k2 with h3|h3
      ·exact .inr ⟨k1.1,k1.2,h3⟩
      ·exact .inl h3
    have hple:t≤p:=by
     rcases (hP p).1 (by simp) with h3|h3
     ·omega
     ·exact k3 p h3.1 h3.2.1
    rcases List.mem_cons.1 htm with h3|h3
    ·exact h3.symm
    ·have:=hs.1 t h3
     omega
   subst hpt
   simp only [spansFrom]
   congr 1
   rcases Int.lt_or_eq_of_le k2 with h3|h3
   ·refine cutR_eq ps to P m p h3 (by omega) hs.2 fun x=>⟨fun hx=>?_,fun hx=>?_⟩
    ·have:=hs.1 x hx
     rcases (hP x).1 (by simp [hx]) with h4|h4
     ·exact .inl h4
     ·exact .inr ⟨h4.1,this,h4.2.2⟩
    ·have hm:x∈p::P:=by
      rw [hP]
      rcases hx with hx|hx
      ·exact .inl hx
      ·exact .inr ⟨hx.1,by omega,hx.2.2⟩
     rcases List.mem_cons.1 hm with h4|h4
     ·rcases hx with hx|hx <;> omega
     ·exact h4
   ·have hnil:P=[]:=by
     cases P with
     |nil=>rfl
     |cons q P =>
      have h5:=hs.1 q (by simp)
      rcases (hP q).1 (by simp) with h4|h4 <;> omega
    subst hnil
    cases m with
    |zero=>rfl
    |succ m=>simp only [cutR];rw [dF (by omega),cond_false];rfl
theorem compact_spec (z:List Int) (hs:z.Pairwise (·≤·)):(Lib.compact z).Pairwise (· < ·)∧∀ x,x∈Lib.compact z↔x∈z:=by
 unfold Lib.compact
 have hz:∀ i (h:i<z.length),z.toArray[i]! = z[i]:=fun i h=>by simp [h]
 rw [List.pairwise_iff_getElem] at hs
 have key:∀ m,m≤z.length→(Lib.compactUpTo z.toArray m).Pairwise (· < ·)∧(∀ x,x∈Lib.compactUpTo z.toArray m↔∃ j,∃ h:j<z.length,j<m∧z[j]=x):=by
  intro m
  induction m with
  |zero =>
   intro _
   refine ⟨List.Pairwise.nil,fun x=>⟨fun h=>(List.not_mem_nil h).elim,?_⟩⟩
   rintro ⟨j,_,h,_⟩
   omega
  |succ m ih =>
   intro hm
   obtain ⟨i1,i2⟩:=ih (by omega)
   rw [Lib.compactUpTo_succ]
   have hmz:=hz m (by omega)
   by_cases hk:Lib.keeps z.toArray m=true
   ·rw [if_pos hk,hmz]
    refine ⟨List.pairwise_append.2 ⟨i1,List.pairwise_singleton _ _,fun a ha b hb=>?_⟩,fun x=>?_⟩
    ·simp only [List.mem_singleton] at hb
     subst hb
     obtain ⟨j,hj,hjm,rfl⟩:=(i2 a).1 ha
     have hm0:0<m:=by omega
     have hne:z[m]'(by omega) ≠ z[m - 1]'(by omega):=by
      intro he
      have:=Lib.keeps_neg (d:=z.toArray) hm0 (by rw [hmz,hz (m - 1) (by omega),he])
      rw [hk] at this
      cases this
     have h1:z[j]≤z[m - 1]'(by omega):=by
      rcases Nat.lt_or_eq_of_le (show j≤m - 1 by omega) with h2|h2
      ·exact hs j (m - 1) hj (by omega) h2
      ·subst h2;exact Int.le_refl _
     have h2:=hs (m - 1) m (by omega) (by omega) (by omega)
     omega
    ·rw [List.mem_append,i2,List.mem_singleton]
     constructor
     ·rintro (⟨j,hj,h1,h2⟩|rfl)
      ·exact ⟨j,hj,by omega,h2⟩
      ·exact ⟨m,by omega,by omega,rfl⟩
     ·rintro ⟨j,hj,h1,h2⟩
      rcases Nat.lt_or_eq_of_le (show j≤m by omega) with h3|h3
      ·exact .inl ⟨j,hj,h3,h2⟩
      ·subst h3;exact .inr h2.symm
   ·rw [if_neg hk,List.append_nil]
    have hm0:0<m:=by
     rcases Nat.eq_zero_or_pos m with h0|h0
     ·subst h0;exact absurd (Lib.keeps_lt_one z.toArray 0 (by omega)) hk
     ·exact h0
    have heq:z[m]'(by omega)=z[m - 1]'(by omega):=by
     apply Classical.byContradiction
     intro hne
     exact hk (Lib.keeps_pos (by rw [hmz,hz (m - 1) (by omega)];exact hne))
    refine ⟨i1,fun x=>?_⟩
    rw [i2]
    constructor
    ·rintro ⟨j,hj,h1,h2⟩
     exact ⟨j,hj,by omega,h2⟩
    ·rintro ⟨j,hj,h1,h2⟩
     rcases Nat.lt_or_eq_of_le (show j≤m by omega) with h3|h3
     ·exact ⟨j,hj,h3,h2⟩
     ·subst h3
      exact ⟨j - 1,by omega,by omega,by rw [← heq];exact h2⟩
 obtain ⟨h1,h2⟩:=key z.length (Nat.le_refl _)
 refine ⟨h1,fun x=>?_⟩
 rw [h2,List.mem_iff_getElem]
 constructor
 ·rintro ⟨j,hj,_,h⟩;exact ⟨j,hj,h⟩
 ·rintro ⟨j,hj,h⟩;exact ⟨j,hj,hj,h⟩
theorem cutPts_spec (s:Int×Int) (ps:List Int):(cutPts s ps).Pairwise (· < ·)∧∀ x,x∈cutPts s ps↔x=s.2∨(x∈ps∧s.1<x∧x<s.2):=by
 unfold cutPts
 obtain ⟨h1,h2⟩:=compact_spec _ (sortI_sorted (s.2::ps.filter fun p=>decide (s.1<p)&&decide (p<s.2)))
 refine ⟨h1,fun x=>?_⟩
 rw [h2,(sortI_perm _).mem_iff,List.mem_cons,List.mem_filter]
 simp only [bA,dE]
end
section
set_option maxRecDepth 100000
noncomputable def f82.E (k:Nat):Env:=mkEnv tt [(138,S138),(139,S139),(140,S140),(141,S141),(142,S142)] [] [(82,10,[.kill (rg [(0,0),(2,43),(47,78)]),.tidy]),(82,4,[.kill (rg [(0,0),(2,14),(18,78)]),.tidy])] [] k
noncomputable def f82.code:Go.Code:=cd Tryz.f82
noncomputable def f82.l0 (k n:Nat) (p0:List (eR)) (p1:Int) (p2:Int) (p3:Int) (p4:List (eL)) (p5:Int) (p6:Int) (p7:Int):Option V :=
 atPath (f82.E k) n ⟨(.u::(.ptr 262160 (0) (0))::.u::.u::.u::.u::.u::.u::.u::.u::.u::.u::.u::.u::.u::(.ro qR p0)::(.int .i64 p1)::(.int .i64 p2)::un 61),[],[(262160,.box [(.int .i64 p3),(.ro qL p4),(.int .i64 p5),(.int .i64 p6),(.int .i64 p7),(.ro qR p0)])]⟩ 9 0 82 [.c 1,.c 1,.c 0,.c 1,.c 0] [] f82.code (finK tt Tryz.f82)
noncomputable def f82.l1 (k n:Nat) (p0:Int) (p1:Int) (p2:Int) (p3:List (eL)) (p4:Int) (p5:Int) (p6:Int) (p7:List (eR)) (p8:List (List ((Int×Int)×Int))):Option V :=
 atPath (f82.E k) n ⟨(.u::(.ptr 262160 (0) (0))::.u::.u::.u::.u::.u::.u::.u::.u::.u::.u::.u::.u::.u::.u::.u::.u::.u::.u::.u::.u::.u::.u::.u::.u::.u::.u::.u::.u::.u::.u::.u::.u::.u::.u::.u::.u::.u::.u::.u::.u::.u::.u::(.slw 11534352)::(.int .i64 p0)::(.int .i64 p1)::un 32),[],[(262160,.box [(.int .i64 p2),(.ro qL p3),(.int .i64 p4),(.int .i64 p5),(.int .i64 p6),(.ro qR p7)]),(11534352,.row (.list (.pair qS qI)) p8)]⟩ 9 0 82 [.c 1,.c 1,.c 1,.c 0,.c 1,.c 0] [] f82.code (finK tt Tryz.f82)
theorem f82.l0_eq (k n:Nat) (p0:List (eR)) (p1:Int) (p2:Int) (p3:Int) (p4:List (eL)) (p5:Int) (p6:Int) (p7:Int):f82.l0 k (n+1) p0 p1 p2 p3 p4 p5 p6 p7 =
 bif decide (p2<p1) then (chk (decide ((0:Int)≤p2∧p2<(↑p0.length:Int))) ((chk (decide ((Rs.pcs (rd qR p0 p2)).length<4611686018427387904)) (some (resMayB ((p3,p4),p5,p6,p7,p0) (rd qR p0 p2)))).bind (fun y0=>bif !y0 then (some (.bool false)) else (bif decide (p2>(0:Int)) then (chk (decide ((0:Int)≤Go.IntKind.i64.wrap (p2 - (1:Int))∧Go.IntKind.i64.wrap (p2 - (1:Int))<(↑p0.length:Int))) (bif decide ((rd qR p0 p2).2.1≤(rd qR p0 (Go.IntKind.i64.wrap (p2 - (1:Int)))).2.1) then (some (.bool false)) else (f82.l0 k n p0 p1 (Go.IntKind.i64.wrap (p2+(1:Int))) p3 p4 p5 p6 p7))) else (f82.l0 k n p0 p1 (Go.IntKind.i64.wrap (p2+(1:Int))) p3 p4 p5 p6 p7))))) else ((chk (fewB ((p3,p4),p5,p6,p7,p0)) (some (weightsOf ((p3,p4),p5,p6,p7,p0) (0:Int)))).bind (fun y0=>f82.l1 k k ((↑y0.length:Int)) 0 p3 p4 p5 p6 p7 p0 y0)):=by kernel_rfl
theorem f82.l1_eq (k n:Nat) (p0:Int) (p1:Int) (p2:Int) (p3:List (eL)) (p4:Int) (p5:Int) (p6:Int) (p7:List (eR)) (p8:List (List ((Int×Int)×Int))):f82.l1 k (n+1) p0 p1 p2 p3 p4 p5 p6 p7 p8 =
 bif decide (p1<p0) then (chk (decide ((0:Int)≤p1∧p1<(↑p8.length:Int))) (bif (buildOf (rd (qS.pair qI).list p8 (↑p1.toNat:Int))).2 != (0:Int) then (some (.bool false)) else ((chk (decide ((buildOf (rd (qS.pair qI).list p8 (↑p1.toNat:Int))).1.length<4611686018427387904)) (some (mostOf (buildOf (rd (qS.pair qI).list p8 (↑p1.toNat:Int))).1 ((0:Int),(4096:Int))))).bind (fun y0=>bif y0.2.2 != (0:Int) then (some (.bool false)) else (chk (decide ((0:Int)≤p1∧p1<(↑p3.length:Int))) (bif decide (y0.1>(rd qL p3 p1).2.2) then (some (.bool false)) else (f82.l1 k n p0 (Go.IntKind.i64.wrap (p1+(1:Int))) p2 p3 p4 p5 p6 p7 p8))))))) else (some (.bool true)):=by kernel_rfl
theorem f82.eq (k:Nat) (x0:(Int×List (eL)) ×
 Int×Int×Int×List (eR)):evFn (f82.E k) 9 82 Tryz.f82 (encL [(.pair (.pair qI (.list qL)) (.pair qI (.pair qI (.pair qI (.list qR)))))] x0) =
 bif !formB x0 then (some (.bool false)) else (f82.l0 k k x0.2.2.2.2 ((↑(x0.2.2.2.2.length):Int)) 0 x0.1.1 x0.1.2 x0.2.1 x0.2.2.1 x0.2.2.2.1):=by kernel_rfl
theorem f82.inl (k:Nat):InlOk Tryz.prog (f82.E k):=inl_nil
theorem f82.sums (k:Nat):SumsOk Tryz.prog (f82.E k):=(sums_cons ok138 (sums_cons ok139 (sums_cons ok140 (sums_cons ok141 (sums_cons ok142 sums_nil)))))
noncomputable def f161.E (k:Nat):Env:=mkEnv tt [(140,S140),(200,S200)] [] [(161,6,[.kill (rg [(0,0),(2,6),(9,18),(22,25),(29,46)]),.tidy]),(161,3,[.kill (rg [(0,0),(2,6),(8,18),(22,46)]),.tidy])] [] k
noncomputable def f161.code:Go.Code:=cd Tryz.f161
noncomputable def f161.l0 (k n:Nat) (p0:Int) (p1:Int) (p2:Int) (p3:List Int) (p4:List (List ((Int×Int)×Int))):Option V :=
 atPath (f161.E k) n ⟨(.u::(.int .i64 p0)::.u::.u::.u::.u::.u::(.slw 1835024)::.u::.u::.u::.u::.u::.u::.u::.u::.u::.u::.u::(.slw 4980752)::(.int .i64 p1)::(.int .i64 p2)::un 25),[],[(1835024,.row qI p3),(4980752,.row (.list (.pair qS qI)) p4)]⟩ 9 0 161 [.c 1,.c 1,.c 0,.c 1,.c 0] [] f161.code (finK tt Tryz.f161)
noncomputable def f161.l1 (k n m0:Nat) (p0:Int) (p1:Int) (p2:Int) (p3:List ((Int×Int)×Int)) (p4:Int) (p5:Int) (p6:List Int) (p7:List (List ((Int×Int)×Int))):Option V :=
 atPath (f161.E k) n ⟨(.u::(.int .i64 p0)::.u::.u::.u::.u::.u::(.slw 1835024)::(.int .i64 p1)::.u::.u::.u::.u::.u::.u::.u::.u::.u::.u::(.slw 4980752)::(.int .i64 p2)::(.int .i64 p1)::.u::.u::.u::.u::(.ro (.pair qS qI) p3)::(.int .i64 p4)::(.int .i64 p5)::un 18),[],[(1835024,.row qI p6),(4980752,.row (.list (.pair qS qI)) p7)]⟩ 9 0 161 [.c 1,.c 1,.c 0,.c 1,.c 0,.c 0,.c 1,.c 1,.c 0,.c 0,.c 1,.c 1,.c 0] [m0] f161.code (finK tt Tryz.f161)
theorem f161.l0_eq (k n:Nat) (p0:Int) (p1:Int) (p2:Int) (p3:List Int) (p4:List (List ((Int×Int)×Int))):f161.l0 k (n+1) p0 p1 p2 p3 p4 =
 bif decide (p2<p1) then (chk (decide ((0:Int)≤p2∧p2<(↑p4.length:Int))) (f161.l1 k k n p0 p2 p1 (rd (qS.pair qI).list p4 (↑p2.toNat:Int)) ((↑(List.length (rd (qS.pair qI).list p4 (↑p2.toNat:Int))):Int)) 0 p3 p4)) else (some (.own qI p3)):=by kernel_rfl
theorem f161.l1_eq (k n m0:Nat) (p0:Int) (p1:Int) (p2:Int) (p3:List ((Int×Int)×Int)) (p4:Int) (p5:Int) (p6:List Int) (p7:List (List ((Int×Int)×Int))):f161.l1 k (n+1) m0 p0 p1 p2 p3 p4 p5 p6 p7 =
 bif decide (p5<p4) then (chk (decide ((0:Int)≤p5∧p5<(↑p3.length:Int))) (bif hasAt (rd (qS.pair qI) p3 p5).1 p0 then (chk (decide ((0:Int)≤p1∧p1<(↑p6.length:Int))) (chk (decide ((0:Int)≤p1∧p1<(↑p6.length:Int))) (f161.l1 k n m0 p0 p1 p2 p3 p4 (Go.IntKind.i64.wrap (p5+(1:Int))) (p6.set p1.toNat (Go.IntKind.i64.wrap (rd qI p6 (↑p1.toNat:Int)+(rd (qS.pair qI) p3 p5).2))) p7))) else (f161.l1 k n m0 p0 p1 p2 p3 p4 (Go.IntKind.i64.wrap (p5+(1:Int))) p6 p7))) else (f161.l0 k m0 p0 p2 (Go.IntKind.i64.wrap (p1+(1:Int))) p6 p7):=by kernel_rfl
theorem f161.eq (k:Nat) (x0:(Int×List (eL)) ×
 Int×Int×Int×List (eR)) (x1:Int) (x2:Int):evFn (f161.E k) 9 161 Tryz.f161 (encL [(.pair (.pair qI (.list qL)) (.pair qI (.pair qI (.pair qI (.list qR))))),qI,qI] (x0,x1,x2)) =
 chk (decide ((0:Int)≤(↑(x0.1.2.length):Int)∧(↑(x0.1.2.length):Int)≤(↑(x0.1.2.length):Int))) (chk (decide (0<8∧(↑(x0.1.2.length):Int)*(↑(8:Nat):Int)≤(140737488355328:Int))) ((chk (fewB x0) (some (weightsOf x0 x2))).bind (fun y0=>f161.l0 k k x1 ((↑y0.length:Int)) 0 (List.replicate (↑(x0.1.2.length):Int).toNat (dflt qI)) y0))):=by kernel_rfl
theorem f161.inl (k:Nat):InlOk Tryz.prog (f161.E k):=inl_nil
theorem f161.sums (k:Nat):SumsOk Tryz.prog (f161.E k):=(sums_cons ok140 (sums_cons ok200 sums_nil))
end
section
open Go
def loadRs (link t but:Int) (rs:List Rs):Int:=((rs.filter fun r=>r.id != but).map fun r=>loadR r link t).sum
def loadB (b:Bk) (link t but:Int):Int:=loadRs link t but b.list
def capAt (b:Bk) (link:Int):Int:=(rd tLk b.1.2 link).2.2
theorem loadRs_cons (link t but:Int) (r:Rs) (rs:List Rs):loadRs link t but (r::rs)=(bif r.id==but then 0 else loadR r link t)+loadRs link t but rs:=by
 unfold loadRs
 rw [List.filter_cons]
 cases h:r.id==but
 ·rw [show (r.id != but)=true by simp only [bne];rw [h];rfl,if_pos rfl];simp
 ·rw [show (r.id != but)=false by simp only [bne];rw [h];rfl,if_neg (by simp)];simp
theorem loadR_pos {r:Rs} {link t:Int} (h:goodR r=true):0≤loadR r link t:=by
 unfold goodR at h
 rw [bA] at h
 exact loadPs_pos h.2
theorem loadRs_pos {link t but:Int}:∀ {rs:List Rs},rs.all goodR=true→0≤loadRs link t but rs
 | [],_=>by simp [loadRs]
 |r::rs,h=>by
  simp only [List.all_cons,bA] at h
  have h1:=loadRs_pos (link:=link) (t:=t) (but:=but) h.2
  have h2:=loadR_pos (link:=link) (t:=t) h.1
  rw [loadRs_cons]
  cases r.id==but
  ·simp only [cond_false];omega
  ·simpa using h1
def listMay (b:Bk):Option Int→List Rs→Bool
 |_,[]=>true
 |p,r::rs=>resMayB b r&&((match p with
  |none=>true
  |some q=>decide (q<r.id))&&listMay b (some r.id) rs)
def fitW (ws:List Wt) (cap:Int):Bool:=(buildOf ws).2==0&&((mostOf (buildOf ws).1 (0,4096)).2.2==0&&decide ((mostOf (buildOf ws).1 (0,4096)).1≤cap))
def bookMayP (b:Bk):Bool:=formB b&&(listMay b none b.list&&((weightsOf b 0).zip b.1.2).all fun x=>fitW x.1 x.2.2.2)
def pcsSmall (b:Bk):Bool:=b.list.all fun r=>decide (r.pcs.length<4611686018427387904)
def aheadI (rs:List Rs) (i:Nat):Option Int:=if i=0 then none else (rs[i - 1]?).map Rs.id
theorem f82.l1_is (k:Nat) (g0:Int) (gl:List Lk) (x4 x5 x6:Int) (rs:List Rs) (W:List (List Wt)) (hW:W.length=gl.length) (hw:W.length≤16):∀ (n i:Nat),i≤W.length→W.length<n+i →
  f82.l1 k n W.length i g0 gl x4 x5 x6 rs W=some (.bool (((W.zip gl).drop i).all fun x=>fitW x.1 x.2.2.2))
 |0,i,h,h'=>by omega
 |n+1,i,h,h'=>by
  rw [f82.l1_eq]
  by_cases hlt:i<W.length
  ·have hx:=gE hlt
   have hlt2:i<gl.length:=by omega
   have hy:=gE hlt2
   have hz:(W.zip gl).drop i=(W[i],gl[i])::(W.zip gl).drop (i+1):=by
    rw [List.drop_eq_getElem_cons (by rw [List.length_zip];omega)]
    simp
   rw [idx_lt' hx,cT,idx_in hx,kT,Int.toNat_natCast,rd_some (t:=.list tW) hx,idx_in hy,rd_some (t:=tLk) hy,wrap_succ (by omega),hz,List.all_cons]
   have hsm:(buildOf W[i]).1.length<4611686018427387904:=by
    unfold buildOf
    by_cases h64:W[i].length≤64
    ·rw [dT h64]
     cases W[i].all weightMay with
     |false=>rw [Bool.and_false,cond_false];exact Nat.zero_lt_succ _
     |true =>
      rw [Bool.and_self,cond_true]
      cases hb:buildL W[i] (pointsOf W[i]) [] with
      |none=>exact Nat.zero_lt_succ _
      |some o =>
       have h1:=keepR_len none o
       have h2:∀ (ps:List Int) (out o:List (Int×Int)),buildL W[i] ps out=some o→o.length≤out.length+ps.length:=by
        intro ps
        induction ps with
        |nil=>intro out o h;simp only [buildL,sI] at h;subst h;simp
        |cons p ps ih =>
         intro out o h
         simp only [buildL] at h
         cases hs:(sumAt W[i] p).2 with
         |false=>rw [hs] at h;cases h
         |true =>
          rw [hs,cond_true] at h
          have:=ih _ _ h
          rw [List.length_cons]
          cases hd:decide (p<4096) with
          |false=>rw [hd,cond_false] at this;omega
          |true=>rw [hd,cond_true,lA,List.length_singleton] at this;omega
       have h3:=h2 _ _ _ hb
       have h4:=compact_le (sortI (0::endsOf W[i]))
       rw [sortI_len] at h4
       have h5:(endsOf W[i]).length=2*W[i].length:=by
        generalize W[i]=vs
        induction vs with
        |nil=>rfl
        |cons v vs ih =>
         show ([v.1.1,v.1.2]++endsOf vs).length=_
         rw [lA,ih]
         simp only [List.length_cons,List.length_nil]
         omega
       unfold pointsOf at h3
       simp only [List.length_cons,List.length_nil] at h3 h4
       dsimp only
       omega
    ·rw [dF h64,fA,cond_false];exact Nat.zero_lt_succ _
   unfold fitW
   cases hb:(buildOf W[i]).2==0 with
   |false=>rw [show ((buildOf W[i]).2 != 0)=true by simp only [bne];rw [hb];rfl,cT,fA,fA]
   |true =>
    rw [show ((buildOf W[i]).2 != 0)=false by simp only [bne];rw [hb];rfl,cF,dT hsm,kT,bS,tA]
    cases hm:(mostOf (buildOf W[i]).1 (0,4096)).2.2==0 with
    |false=>rw [show ((mostOf (buildOf W[i]).1 (0,4096)).2.2 != 0)=true by simp only [bne];rw [hm];rfl,cT,fA,fA]
    |true =>
     rw [show ((mostOf (buildOf W[i]).1 (0,4096)).2.2 != 0)=false by simp only [bne];rw [hm];rfl,cF,kT,tA]
     by_cases hc:(mostOf (buildOf W[i]).1 (0,4096)).1≤gl[i].2.2
     ·rw [dF (by omega),cF,dT hc,tA]
      exact f82.l1_is k g0 gl x4 x5 x6 rs W hW hw n (i+1) (by omega) (by omega)
     ·rw [dT (by omega),cT,dF hc,fA]
  ·obtain rfl:i=W.length:=by omega
   rw [end_lt,cF,List.drop_of_length_le (by rw [List.length_zip];omega)]
   rfl
theorem f82.l0_is (k:Nat) (hk:16<k) (b:Bk) (hf:formB b=true) (hs:pcsSmall b=true):∀ (n i:Nat),i≤b.list.length→b.list.length<n+i→(∀ r∈b.list.take i,r.pcs.length≤8) →
  f82.l0 k n b.list b.list.length i b.1.1 b.1.2 b.2.1 b.2.2.1 b.2.2.2.1=some (.bool (listMay b (aheadI b.list i) (b.list.drop i)&&((weightsOf b 0).zip b.1.2).all fun x=>fitW x.1 x.2.2.2))
 |0,i,h,h',_=>by omega
 |n+1,i,h,h',hfew=>by
  have hf':=hf
  unfold formB at hf'
  simp only [bA,dE] at hf'
  obtain ⟨hg,hsg,hnow,hnx,hll⟩:=hf'
  have hgr:b.1.2.length≤16:=by
   unfold graphMay shapeB at hg
   simp only [bA,dE] at hg
   exact hg.1.2.1
  rw [f82.l0_eq]
  have hbk:((b.1.1,b.1.2),b.2.1,b.2.2.1,b.2.2.2.1,b.list)=b:=rfl
  by_cases hlt:i<b.list.length
  ·have hx:=gE hlt
   have hsm:b.list[i].pcs.length<4611686018427387904:=oD (List.all_eq_true.1 hs b.list[i] (List.getElem_mem hlt))
   have ha:aheadI b.list (i+1)=some b.list[i].id:=by unfold aheadI;rw [if_neg (by omega),show i+1 - 1=i from rfl,hx];rfl
   rw [idx_lt' hx,cT,idx_in hx,kT,rd_some (t:=tRs) hx,dT hsm,kT,bS,wrap_succ (by omega),hbk,List.drop_eq_getElem_cons hlt]
   simp only [listMay]
   cases hr:resMayB b b.list[i] with
   |false=>rw [nF,cT,fA,fA]
   |true =>
    have hle:b.list[i].pcs.length≤8:=by
     have h1:=hr
     unfold resMayB at h1
     simp only [bA,dE] at h1
     have:=h1.2.2.2.2.1
     omega
    have ih:=f82.l0_is k hk b hf hs n (i+1) (by omega) (by omega) (fun r hr'=>by
     rw [List.take_add_one,hx,List.mem_append] at hr'
     rcases hr' with hr'|hr'
     ·exact hfew r hr'
     ·simp only [Option.toList_some,List.mem_singleton] at hr'
      subst hr'
      exact hle)
    rw [ha] at ih
    rw [nT,cF,tA,ih]
    by_cases h0:i=0
    ·subst h0
     rw [show decide (((0:Nat):Int)>0)=false by simp,cF]
     rfl
    ·have hy:b.list[i - 1]? = some b.list[i - 1]:=gE (by omega)
     have ha2:aheadI b.list i=some b.list[i - 1].id:=by unfold aheadI;rw [if_neg h0,hy];rfl
     rw [ha2,show decide ((i:Int)>0)=true by simp;omega,cT,wrap64 (n:=(i:Int) - 1) (by omega),show ((i:Int) - 1)=((i - 1:Nat):Int) by omega,idx_in hy,kT,rd_some (t:=tRs) hy]
     dsimp only
     unfold Rs.id
     by_cases hc:b.list[i].2.1≤b.list[i - 1].2.1
     ·rw [dT hc,cT,dF (by omega),fA,fA]
     ·rw [dF hc,cF,dT (by omega),tA]
  ·obtain rfl:i=b.list.length:=by omega
   have hfew':fewB b=true:=by
    unfold fewB
    rw [List.take_length] at hfew
    rw [dT hgr,dT hll,tA,tA]
    exact List.all_eq_true.2 fun r hr=>dT (hfew r hr)
   rw [end_lt,cF,hbk,hfew',kT,bS,List.drop_length]
   simp only [listMay,tA]
   have hwl:(weightsOf b 0).length=b.1.2.length:=by unfold weightsOf;simp
   have:=f82.l1_is k b.1.1 b.1.2 b.2.1 b.2.2.1 b.2.2.2.1 b.list (weightsOf b 0) hwl (by omega) k 0 (by omega) (by omega)
   rw [show ((0:Nat):Int)=0 from rfl,List.drop_zero] at this
   exact this
theorem bookP_run (b:Bk) (hs:pcsSmall b=true):∃ k,evFn (f82.E k) 9 82 Tryz.f82 (encL [tBk] b)=some (.bool (bookMayP b)):=by
 refine ⟨17,(f82.eq _ b).trans ?_⟩
 unfold bookMayP
 cases hf:formB b with
 |false=>rw [nF,cT,fA]
 |true =>
  have hll:b.list.length≤8:=by
   have hf':=hf
   unfold formB at hf'
   simp only [bA,dE] at hf'
   exact hf'.2.2.2.2
  rw [nT,cF,tA]
  exact f82.l0_is 17 (by omega) b hf hs 17 0 (by omega) (by omega) (fun r hr=>by simp at hr)
end
section
theorem among_cons (k:Int) (ls:List Int) (i:Int):amongB (k::ls) i=(k==i || amongB ls i):=rfl
theorem among_iff {ls:List Int} {i:Int}:amongB ls i=true↔i∈ls:=by
 unfold amongB
 simp
theorem addLs_rate (r:Int):∀ (ls:List Int) (o:List Int),ls.Nodup→(∀ z∈ls,0≤z∧z<(o.length:Int))→(∀ (i:Nat) x,o[i]? = some x→(i:Int)∈ls→x+r≤maxRate) →
  ∃ o',addLs r ls o=some o'∧o'.length=o.length∧∀ (i:Nat) x,o[i]? = some x→o'[i]? = some (x+bif amongB ls i then r else 0)
 | [],o,_,_,_=>⟨o,rfl,rfl,fun i x hx=>by rw [hx];simp [amongB]⟩
 |z::ls,o,hn,hz,ho=>by
  rw [List.nodup_cons] at hn
  have hz0:=hz z (by simp)
  have hltz:z.toNat<o.length:=by omega
  have hgz:=gE hltz
  have hrdz:rd tI o z=o[z.toNat]:=by
   have:=rd_some (t:=tI) hgz
   rwa [Int.toNat_of_nonneg hz0.1] at this
  have hbz:=ho z.toNat _ hgz (by rw [Int.toNat_of_nonneg hz0.1];simp)
  have haz:addK o z r=some (o.set z.toNat (o[z.toNat]+r)):=by
   unfold addK
   rw [hrdz,dF (by omega),cond_false]
  obtain ⟨o',h1,h2,h3⟩:=addLs_rate r ls (o.set z.toNat (o[z.toNat]+r)) hn.2 (fun w hw=>by rw [List.length_set];exact hz w (List.mem_cons_of_mem _ hw)) (fun i x hx hi=>by
   rw [List.getElem?_set] at hx
   have hne:z.toNat ≠ i:=by
    rintro rfl
    rw [Int.toNat_of_nonneg hz0.1] at hi
    exact hn.1 hi
   rw [if_neg hne] at hx
   exact ho i x hx (List.mem_cons_of_mem _ hi))
  refine ⟨o',?_,by rw [h2,List.length_set],fun i x hx=>?_⟩
  ·simp only [addLs];rw [haz,bS];exact h1
  ·by_cases hne:z.toNat=i
   ·subst hne
    have hxe:x=o[z.toNat]:=by rw [hgz] at hx;exact (oJ hx).symm
    have h4:=h3 z.toNat (o[z.toNat]+r) (by rw [List.getElem?_set,if_pos rfl,if_pos hltz])
    rw [h4,among_cons,Int.toNat_of_nonneg hz0.1,show (z==z)=true by simp,Bool.true_or,cond_true]
    have:amongB ls z=false:=by
     cases h:amongB ls z with
     |false=>rfl
     |true=>exact absurd (among_iff.1 h) hn.1
    rw [this,cond_false,hxe,Int.add_zero]
   ·have h4:=h3 i x (by rw [List.getElem?_set,if_neg hne];exact hx)
    rw [h4,among_cons,show (z==(i:Int))=false by rw [beq_eq_false_iff_ne];omega,Bool.false_or]
theorem addPs_rate:∀ (ps:List Pt) (o:List Int) (all:Int),(∀ p∈ps,0≤p.1∧p.2.Nodup∧∀ z∈p.2,0≤z∧z<(o.length:Int))→(∀ x∈o,x≤all)→all+(ratesOf ps).sum≤maxRate →
  ∃ o',addPs ps o=some o'∧o'.length=o.length∧∀ (i:Nat) x,o[i]? = some x→o'[i]? = some (x+rateOn i ps)
 | [],o,all,_,_,_=>⟨o,rfl,rfl,fun i x hx=>by rw [hx];simp [rateOn]⟩
 |p::ps,o,all,hp,ho,ha=>by
  obtain ⟨h1,h2,h3⟩:=hp p (by simp)
  have hsum:0≤(ratesOf ps).sum:=by
   have:∀ (qs:List Pt),(∀ p∈qs,0≤p.1)→0≤(ratesOf qs).sum:=by
    intro qs
    induction qs with
    |nil=>intro _;exact Int.le_refl _
    |cons q qs ih =>
     intro hq
     have:=ih fun p hp=>hq p (List.mem_cons_of_mem _ hp)
     have:=hq q (by simp)
     show 0≤(q.1::ratesOf qs).sum
     rw [List.sum_cons]
     omega
   exact this ps fun p hp'=>(hp p (List.mem_cons_of_mem _ hp')).1
  have ha':all+(p.1+(ratesOf ps).sum)≤maxRate:=by
   have:(ratesOf (p::ps)).sum=p.1+(ratesOf ps).sum:=by show (p.1::ratesOf ps).sum=_;rw [List.sum_cons]
   rwa [this] at ha
  obtain ⟨o1,e1,e2,e3⟩:=addLs_rate p.1 p.2 o h2 h3 (fun i x hx _=>by
   have:=ho x (List.mem_of_getElem? hx)
   omega)
  obtain ⟨o2,g1,g2,g3⟩:=addPs_rate ps o1 (all+p.1) (fun q hq=>by rw [e2];exact hp q (List.mem_cons_of_mem _ hq)) (fun x hx=>by
   obtain ⟨i,hi⟩:=List.mem_iff_getElem?.1 hx
   have hlt:i<o.length:=by rw [← e2];exact (List.getElem?_eq_some_iff.1 hi).1
   have hg:=gE hlt
   have h4:=e3 i _ hg
   rw [hi] at h4
   have h5:=oJ h4
   have h6:=ho _ (List.getElem_mem hlt)
   cases hb:amongB p.2 (i:Int) with
   |false=>rw [hb,cond_false] at h5;omega
   |true=>rw [hb,cond_true] at h5;omega) (by omega)
  refine ⟨o2,?_,by rw [g2,e2],fun i x hx=>?_⟩
  ·simp only [addPs];rw [e1,bS];exact g1
  ·rw [g3 i _ (e3 i x hx),rateOn_cons,Int.add_assoc]
theorem path_nodup {g:Gr} {src dst:Int} {ls:List Int} (h:pathB g src dst ls=true):ls.Nodup∧ls.length≤64∧ls.all (lkIn g.2)=true:=by
 unfold pathB at h
 simp only [bA,dE,beq_iff_eq] at h
 obtain ⟨h1,_,_,h4⟩:=h
 obtain ⟨us,c1,c2,c3⟩:=walkOf_ok h1
 rw [c3] at h4
 obtain ⟨_,_,c4,c5⟩:=walkForm_all c1
 refine ⟨?_,c4,c5⟩
 have h5:=(List.nodup_cons.1 h4).2
 have hl:=walkL_len _ _ _ c2
 have he:us=ls.map fun l=>(lk g.2 l).2.1:=by
  refine List.ext_getElem? fun i=>?_
  rw [List.getElem?_map]
  cases hi:ls[i]? with
  |none =>
   rw [List.getElem?_eq_none_iff] at hi
   rw [List.getElem?_eq_none_iff.2 (by omega)]
   rfl
  |some l=>rw [walkL_get _ _ _ c2 hi];rfl
 rw [he] at h5
 exact List.Pairwise.of_map _ (fun a b hab hc=>hab (by rw [hc])) h5
theorem loadsOf_some' {g:Gr} {ps:List Pt} {out:List Int} (h:bForm g ps=true) (ha:addPs ps (List.replicate g.2.length 0)=some out):loadsOf g ps=(out,0):=by
 unfold loadsOf
 rw [h,cT,ha]
theorem lkIn_iff {gl:List Lk} {z:Int} (h:lkIn gl z=true):0≤z∧z<(gl.length:Int):=by
 unfold lkIn at h
 simpa using h
theorem mayB_parts {g:Gr} {src dst want:Int} {ps:List Pt} (h:mayB g src dst want ps=true):graphMay g=true∧ps.length≤16∧(∀ p∈ps,0<p.1∧p.1≤maxRate∧pathB g src dst p.2=true)∧(ratesOf ps).sum≤maxRate:=by
 unfold mayB at h
 simp only [bA,dE,List.all_eq_true] at h
 obtain ⟨h1,h2,h3,h4,h5⟩:=h
 have h5:sumUp 0 (ratesOf ps)=some want:=by simpa using h5
 have h6:=sumUp_lo _ _ _ h5 (by omega) (by decide)
 have h7:=sumUp_sum _ _ _ h5
 refine ⟨h1,h3,fun p hp=>⟨(h4 p hp).1,(h6.2.2 p.1 (List.mem_map_of_mem hp)).2,(h4 p hp).2⟩,by omega⟩
theorem loads_rate {g:Gr} {src dst want:Int} {ps:List Pt} (h:mayB g src dst want ps=true):(loadsOf g ps).1.length=g.2.length∧∀ (i:Nat),i<g.2.length→(loadsOf g ps).1[i]? = some (rateOn i ps):=by
 obtain ⟨h1,h2,h3,h4⟩:=mayB_parts h
 have hf:bForm g ps=true:=by
  unfold bForm
  rw [h1,dT h2,tA,tA]
  refine List.all_eq_true.2 fun p hp=>?_
  obtain ⟨p1,p2,p3⟩:=h3 p hp
  obtain ⟨q1,q2,q3⟩:=path_nodup p3
  unfold ptOk
  rw [show rateB p.1=true from dT ⟨by omega,p2⟩,dT q2,q3]
  rfl
 obtain ⟨o,e1,e2,e3⟩:=addPs_rate ps (List.replicate g.2.length 0) 0 (fun p hp=>by
  obtain ⟨p1,p2,p3⟩:=h3 p hp
  obtain ⟨q1,q2,q3⟩:=path_nodup p3
  exact ⟨by omega,q1,fun z hz=>by rw [List.length_replicate];exact lkIn_iff (List.all_eq_true.1 q3 z hz)⟩) (fun x hx=>by rw [(List.mem_replicate.1 hx).2];exact Int.le_refl _) (by omega)
 rw [loadsOf_some' hf e1]
 refine ⟨by rw [e2,List.length_replicate],fun i hi=>?_⟩
 have:=e3 i 0 (by rw [List.getElem?_replicate,if_pos hi])
 rw [this,Int.zero_add]
theorem loadsAt_append (a b:List Wt) (t:Int):(loadsAt (a++b) t).sum=(loadsAt a t).sum+(loadsAt b t).sum:=by
 unfold loadsAt
 rw [List.filter_append,List.map_append,List.sum_append]
theorem goodPt_of {g:Gr} {src dst want:Int} {ps:List Pt} (h:mayB g src dst want ps=true):ps.length≤16∧ps.all goodPt=true:=by
 obtain ⟨_,h2,h3,_⟩:=mayB_parts h
 refine ⟨h2,List.all_eq_true.2 fun p hp=>?_⟩
 obtain ⟨p1,p2,p3⟩:=h3 p hp
 unfold goodPt
 rw [show rateB p.1=true from dT ⟨by omega,p2⟩,dT (path_nodup p3).2.1]
 rfl
theorem rateOn_max {i:Int}:∀ {ps:List Pt},(∀ p∈ps,0≤p.1)→rateOn i ps≤(ratesOf ps).sum
 | [],_=>Int.le_refl _
 |p::ps,h=>by
  have:=rateOn_max (i:=i) (ps:=ps) fun q hq=>h q (List.mem_cons_of_mem _ hq)
  have:=h p (by simp)
  rw [rateOn_cons,show (ratesOf (p::ps)).sum=p.1+(ratesOf ps).sum by show (p.1::ratesOf ps).sum=_;rw [List.sum_cons]]
  cases amongB p.2 i
  ·simp only [cond_false];omega
  ·simp only [cond_true];omega
theorem wtsP_at {g:Gr} {src dst want:Int} {p:Pc} (h:mayB g src dst want p.2=true) (hs:spanMay p.1=true) {i:Nat} (hi:i<g.2.length) (t:Int) :
  (loadsAt (wtsP g i p) t).sum=(bif hasAt p.1 t then rateOn i p.2 else 0)∧∀ w∈wtsP g i p,weightMay w=true∧w.1=p.1:=by
 have hr:=(loads_rate h).2 i hi
 have hpos:=rateOn_pos (link:=(i:Int)) (goodPt_of h).2
 obtain ⟨_,_,h3,h4⟩:=mayB_parts h
 have hmax:=rateOn_max (i:=(i:Int)) (ps:=p.2) fun q hq=>by have:=(h3 q hq).1;omega
 unfold wtsP
 rw [List.getD_eq_getElem?_getD,hr,Option.getD_some]
 by_cases h0:0<rateOn i p.2
 ·rw [dT h0,cond_true]
  refine ⟨?_,fun w hw=>?_⟩
  ·unfold loadsAt
   cases hh:hasAt p.1 t with
   |true=>rw [List.filter_cons,if_pos hh];simp
   |false=>rw [List.filter_cons,if_neg (by simp [hh])];simp
  ·rw [List.mem_singleton] at hw
   subst hw
   refine ⟨?_,rfl⟩
   unfold weightMay
   rw [hs,show rateB (rateOn i p.2)=true from dT ⟨by omega,by omega⟩]
   rfl
 ·have:rateOn i p.2=0:=by omega
  rw [dF h0,cond_false,this]
  refine ⟨?_,fun w hw=>(List.not_mem_nil hw).elim⟩
  cases hasAt p.1 t <;> rfl
theorem wtsR_at {g:Gr} {src dst want:Int} {i:Nat} (hi:i<g.2.length) (t:Int):∀ (ps:List Pc),(∀ p∈ps,mayB g src dst want p.2=true∧spanMay p.1=true) →
  (loadsAt (ps.flatMap (wtsP g i)) t).sum=loadPs i t ps∧∀ w∈ps.flatMap (wtsP g i),weightMay w=true∧∃ p∈ps,w.1=p.1
 | [],_=>⟨rfl,fun w hw=>(List.not_mem_nil hw).elim⟩
 |p::ps,h=>by
  obtain ⟨h1,h2⟩:=wtsR_at hi t ps fun q hq=>h q (List.mem_cons_of_mem _ hq)
  obtain ⟨h3,h4⟩:=h p (by simp)
  obtain ⟨h5,h6⟩:=wtsP_at h3 h4 hi t
  rw [List.flatMap_cons,loadsAt_append,h1,h5,loadPs_cons]
  refine ⟨rfl,fun w hw=>?_⟩
  rcases List.mem_append.1 hw with hw|hw
  ·exact ⟨(h6 w hw).1,p,by simp,(h6 w hw).2⟩
  ·obtain ⟨a,q,hq,e⟩:=h2 w hw
   exact ⟨a,q,List.mem_cons_of_mem _ hq,e⟩
theorem wholeL_spans (to:Int):∀ (ps:List Pc) (a:Int),wholeL to a ps=true→∀ p∈ps,spanMay p.1=true
 | [],_,_,p,hp=>(List.not_mem_nil hp).elim
 |q::ps,a,h,p,hp=>by
  simp only [wholeL,bA] at h
  rcases List.mem_cons.1 hp with rfl|hp
  ·first|exact h.1|exact h.1.1|exact h.1.2|exact h.2.1
  ·first|exact wholeL_spans to ps _ h.2 p hp|exact wholeL_spans to ps _ h.2.2 p hp
end
section
def sumW (ws:List Wt) (t:Int):Int:=(loadsAt ws t).sum
theorem loadsAt_pos {ws:List Wt} (hw:ws.all weightMay=true) {t:Int}:∀ x∈loadsAt ws t,0≤x∧x≤maxRate:=by
 intro x hx
 unfold loadsAt at hx
 obtain ⟨w,h1,rfl⟩:=List.mem_map.1 hx
 have h2:=List.all_eq_true.1 hw w (List.mem_filter.1 h1).1
 unfold weightMay at h2
 rw [bA] at h2
 exact oD h2.2
theorem sum_pos:∀ {xs:List Int},(∀ x∈xs,0≤x)→0≤xs.sum
 | [],_=>Int.le_refl _
 |x::xs,h=>by
  have:=sum_pos (xs:=xs) fun y hy=>h y (List.mem_cons_of_mem _ hy)
  have:=h x (by simp)
  rw [List.sum_cons]
  omega
theorem sumW_pos {ws:List Wt} (hw:ws.all weightMay=true) {t:Int}:0≤sumW ws t:=sum_pos fun x hx=>(loadsAt_pos hw x hx).1
theorem sumAt_is {ws:List Wt} (hw:ws.all weightMay=true) (t:Int):sumAt ws t=bif decide (sumW ws t≤maxRate) then (sumW ws t,true) else (0,false):=by
 unfold sumAt sumTold
 by_cases h:sumW ws t≤maxRate
 ·rw [dT h,cond_true,sumUp_eq _ 0 (fun x hx=>(loadsAt_pos hw x hx).1) (by omega) (by unfold sumW at h;omega)]
  show (0+sumW ws t,true)=_
  rw [Int.zero_add]
 ·rw [dF h,cond_false]
  cases hs:sumUp 0 (loadsAt ws t) with
  |none=>rfl
  |some s =>
   have h1:=sumUp_sum _ _ _ hs
   have h2:=sumUp_lo _ _ _ hs (by omega) (by decide)
   exact absurd (show sumW ws t≤maxRate by unfold sumW;omega) h
def ptR (ws:List Wt) (p:Int):Int×Int:=(p,sumW ws p)
theorem buildL_is {ws:List Wt} (hw:ws.all weightMay=true):∀ (P:List Int) (out:List (Int×Int)),
  buildL ws P out=bif P.all (fun p=>decide (sumW ws p≤maxRate)) then some (out++(P.filter fun p=>decide (p<4096)).map (ptR ws)) else none
 | [],out=>by simp [buildL]
 |p::P,out=>by
  simp only [buildL,List.all_cons]
  rw [sumAt_is hw]
  cases h:decide (sumW ws p≤maxRate) with
  |false=>rfl
  |true =>
   rw [cond_true,cond_true,buildL_is hw P,tA]
   cases hd:decide (p<4096) with
   |false=>rw [cond_false,List.filter_cons,if_neg (by simp [hd])]
   |true=>rw [cond_true,List.filter_cons,if_pos hd,List.map_cons,List.append_assoc];rfl
theorem keepR_all (cap:Int):∀ (rs:List (Int×Int)) (q:Int×Int),q.2≤cap→((∀ r∈keepR (some q) rs,r.2≤cap)↔∀ r∈rs,r.2≤cap)
 | [],q,_=>Iff.rfl
 |r::rs,q,hq=>by
  simp only [keepR]
  cases h:r.2==q.2 with
  |true =>
   have h':r.2=q.2:=by simpa using h
   rw [cond_true,keepR_all cap rs r (by omega),List.forall_mem_cons]
   exact ⟨fun hh=>⟨by omega,hh⟩,fun hh=>hh.2⟩
  |false =>
   rw [cond_false,List.forall_mem_cons,List.forall_mem_cons]
   constructor
   ·rintro ⟨h1,h2⟩;exact ⟨h1,(keepR_all cap rs r h1).1 h2⟩
   ·rintro ⟨h1,h2⟩;exact ⟨h1,(keepR_all cap rs r h1).2 h2⟩
theorem keepR_sub:∀ (rs:List (Int×Int)) (q:Int×Int),∀ r∈keepR (some q) rs,r∈rs
 | [],q,r,hr=>hr
 |x::rs,q,r,hr=>by
  simp only [keepR] at hr
  cases h:x.2==q.2 with
  |true=>rw [h,cond_true] at hr;exact List.mem_cons_of_mem _ (keepR_sub rs x r hr)
  |false =>
   rw [h,cond_false] at hr
   rcases List.mem_cons.1 hr with rfl|hr
   ·exact List.mem_cons_self
   ·exact List.mem_cons_of_mem _ (keepR_sub rs x r hr)
theorem keepR_ok:∀ (rs:List (Int×Int)) (q q':Int×Int),q.2=q'.2→q.1≤q'.1→(∀ r∈rs,q'.1<r.1)→rs.Pairwise (fun a b=>a.1<b.1)→(∀ r∈rs,r.1<4096∧rateB r.2=true)→runsOk (some q) (keepR (some q') rs)=true
 | [],q,q',_,_,_,_,_=>rfl
 |r::rs,q,q',h1,h2,h3,h4,h5=>by
  rw [List.pairwise_cons] at h4
  have h6:=h3 r (by simp)
  have h7:=h5 r (by simp)
  have h8:∀ x∈rs,x.1<4096∧rateB x.2=true:=fun x hx=>h5 x (List.mem_cons_of_mem _ hx)
  simp only [keepR]
  cases h:r.2==q'.2 with
  |true =>
   have h':r.2=q'.2:=by simpa using h
   rw [cond_true]
   exact keepR_ok rs q r (by omega) (by omega) h4.1 h4.2 h8
  |false =>
   have h':¬ r.2=q'.2:=by simpa using h
   rw [cond_false]
   simp only [runsOk,runOk,bA,dE,bne_iff_ne,ne_eq]
   exact ⟨⟨h7.1,h7.2,by omega,by omega⟩,keepR_ok rs r r rfl (Int.le_refl _) h4.1 h4.2 h8⟩
theorem mostL_le (to cap:Int):∀ (rs:List (Int×Int)) (m:Int×Int),(∀ r∈rs,r.1<to)→((mostL to rs m).1≤cap↔m.1≤cap∧∀ r∈rs,r.2≤cap)
 | [],m,_=>by simp [mostL]
 |r::rs,m,h=>by
  have h1:=h r (by simp)
  have ih:=fun m=>mostL_le to cap rs m fun x hx=>h x (List.mem_cons_of_mem _ hx)
  simp only [mostL]
  rw [dT h1,tA,List.forall_mem_cons]
  by_cases hc:r.2>m.1
  ·rw [dT hc,cond_true,ih]
   constructor
   ·rintro ⟨a,b⟩;exact ⟨by dsimp only at a;omega,a,b⟩
   ·rintro ⟨a,b,c⟩;exact ⟨b,c⟩
  ·rw [dF hc,cond_false,ih]
   constructor
   ·rintro ⟨a,b⟩;exact ⟨a,by omega,b⟩
   ·rintro ⟨a,b,c⟩;exact ⟨a,c⟩
theorem points_spec (ws:List Wt):(pointsOf ws).Pairwise (· < ·)∧∀ x,x∈pointsOf ws↔x=0∨∃ w∈ws,x=w.1.1∨x=w.1.2:=by
 obtain ⟨h1,h2⟩:=compact_spec _ (sortI_sorted (0::endsOf ws))
 refine ⟨h1,fun x=>?_⟩
 unfold pointsOf
 rw [h2,(sortI_perm _).mem_iff,List.mem_cons]
 unfold endsOf
 rw [List.mem_flatMap]
 simp only [List.mem_cons,List.not_mem_nil,or_false]
theorem sumW_from {ws:List Wt} (hw:ws.all weightMay=true) (t:Int):sumW ws t=0∨∃ w∈ws,hasAt w.1 t=true∧sumW ws t≤sumW ws w.1.1:=by
 have sub:∀ (vs:List Wt) (f:Int),vs.all weightMay=true→(∀ w∈vs,hasAt w.1 t=true→hasAt w.1 f=true)→sumW vs t≤sumW vs f:=by
  intro vs f
  induction vs with
  |nil=>intro _ _;exact Int.le_refl _
  |cons v vs ih =>
   intro h1 h2
   simp only [List.all_cons,bA] at h1
   have h3:=ih h1.2 fun w hw=>h2 w (List.mem_cons_of_mem _ hw)
   have h4:=h2 v (by simp)
   have h5:0≤v.2:=by
    have:=h1.1
    unfold weightMay at this
    rw [bA] at this
    exact (oD this.2:0≤v.2∧v.2≤maxRate).1
   unfold sumW loadsAt at h3 ⊢
   rw [List.filter_cons,List.filter_cons]
   cases ht:hasAt v.1 t with
   |true=>rw [h4 ht,if_pos rfl,if_pos rfl,List.map_cons,List.map_cons,List.sum_cons,List.sum_cons];omega
   |false =>
    rw [if_neg (by simp)]
    cases hasAt v.1 f with
    |true=>rw [if_pos rfl,List.map_cons,List.sum_cons];omega
    |false=>rw [if_neg (by simp)];exact h3
 have last:∀ (vs:List Wt),(∀ w∈vs,hasAt w.1 t=false)∨∃ w∈vs,hasAt w.1 t=true∧∀ v∈vs,hasAt v.1 t=true→v.1.1≤w.1.1:=by
  intro vs
  induction vs with
  |nil=>exact .inl fun w hw=>(List.not_mem_nil hw).elim
  |cons v vs ih =>
   cases hv:hasAt v.1 t with
   |false =>
    rcases ih with h|⟨w,h1,h2,h3⟩
    ·exact .inl fun w hw=>by
      rcases List.mem_cons.1 hw with rfl|hw
      ·exact hv
      ·exact h w hw
    ·refine .inr ⟨w,List.mem_cons_of_mem _ h1,h2,fun u hu hut=>?_⟩
     rcases List.mem_cons.1 hu with rfl|hu
     ·rw [hv] at hut;cases hut
     ·exact h3 u hu hut
   |true =>
    rcases ih with h|⟨w,h1,h2,h3⟩
    ·refine .inr ⟨v,List.mem_cons_self,hv,fun u hu hut=>?_⟩
     rcases List.mem_cons.1 hu with rfl|hu
     ·exact Int.le_refl _
     ·rw [h u hu] at hut;cases hut
    ·by_cases hle:v.1.1≤w.1.1
     ·refine .inr ⟨w,List.mem_cons_of_mem _ h1,h2,fun u hu hut=>?_⟩
      rcases List.mem_cons.1 hu with rfl|hu
      ·exact hle
      ·exact h3 u hu hut
     ·refine .inr ⟨v,List.mem_cons_self,hv,fun u hu hut=>?_⟩
      rcases List.mem_cons.1 hu with rfl|hu
      ·exact Int.le_refl _
      ·have:=h3 u hu hut
       omega
 rcases last ws with h|⟨w,h1,h2,h3⟩
 ·left
  unfold sumW loadsAt
  rw [List.filter_eq_nil_iff.2 fun w hw=>by rw [h w hw];simp]
  rfl
 ·refine .inr ⟨w,h1,h2,sub ws _ hw fun v hv hvt=>?_⟩
  have h4:=h3 v hv hvt
  rw [hasAt_iff] at h2 hvt ⊢
  exact ⟨hvt.1,h4,by omega⟩
theorem fitW_iff {ws:List Wt} {cap:Int} (hw:ws.all weightMay=true) (hl:ws.length≤64) (hc:0≤cap∧cap≤maxRate):fitW ws cap=true↔∀ w∈ws,sumW ws w.1.1≤cap:=by
 obtain ⟨hp,hm⟩:=points_spec ws
 have hspan:∀ w∈ws,0≤w.1.1∧w.1.1<w.1.2∧w.1.2≤4096:=by
  intro w hw'
  have:=List.all_eq_true.1 hw w hw'
  unfold weightMay spanMay at this
  rw [bA] at this
  exact oD this.1
 have hin:∀ p∈pointsOf ws,0≤p:=by
  intro p hp'
  rcases (hm p).1 hp' with rfl|⟨w,h1,h2⟩
  ·exact Int.le_refl _
  ·have:=hspan w h1
   omega
 have hend:∀ p,¬ p<4096→sumW ws p=0:=by
  intro p hp'
  rcases sumW_from hw p with h|⟨w,h1,h2,_⟩
  ·exact h
  ·rw [hasAt_iff] at h2
   have:=hspan w h1
   omega
 have hall:(∀ p∈pointsOf ws,sumW ws p≤cap)↔∀ w∈ws,sumW ws w.1.1≤cap:=by
  constructor
  ·exact fun h w hw'=>h _ ((hm _).2 (.inr ⟨w,hw',.inl rfl⟩))
  ·intro h p _
   rcases sumW_from hw p with h0|⟨w,h1,_,h3⟩
   ·omega
   ·have:=h w h1
    omega
 rw [← hall]
 obtain ⟨P,hP⟩:∃ P,pointsOf ws=0::P:=by
  have h0:(0:Int)∈pointsOf ws:=(hm 0).2 (.inl rfl)
  cases h:pointsOf ws with
  |nil=>rw [h] at h0;cases h0
  |cons q P =>
   rw [h] at h0 hp hin
   rcases List.mem_cons.1 h0 with h1|h1
   ·exact ⟨P,by rw [h1]⟩
   ·have h2:=(List.pairwise_cons.1 hp).1 0 h1
    have h3:=hin q (by simp)
    omega
 rw [hP] at hp hin
 rw [List.pairwise_cons] at hp
 unfold fitW buildOf
 rw [dT hl,hw,tA,cond_true,buildL_is hw,hP]
 cases ha:(0::P).all (fun p=>decide (sumW ws p≤maxRate)) with
 |false =>
  rw [cond_false]
  refine ⟨fun h=>by simp at h,fun h=>?_⟩
  have:(0::P).all (fun p=>decide (sumW ws p≤maxRate))=true:=List.all_eq_true.2 fun p hp'=>dT (by have:=h p hp';omega)
  rw [ha] at this
  cases this
 |true =>
  rw [cond_true,List.nil_append,List.filter_cons,if_pos (by decide),List.map_cons]
  simp only [keepR]
  generalize hr:(P.filter fun p=>decide (p<4096)).map (ptR ws)=rs
  have h0:∀ p∈0::P,0≤sumW ws p∧sumW ws p≤maxRate:=fun p hp'=>⟨sumW_pos hw,oD (List.all_eq_true.1 ha p hp')⟩
  have hrs:∀ r∈rs,0<r.1∧r.1<4096∧rateB r.2=true:=by
   intro r hr'
   subst hr
   obtain ⟨p,h1,rfl⟩:=List.mem_map.1 hr'
   obtain ⟨h1,h2⟩:=List.mem_filter.1 h1
   exact ⟨hp.1 p h1,oD h2,dT (h0 p (List.mem_cons_of_mem _ h1))⟩
  have hpr:rs.Pairwise (fun a b=>a.1<b.1):=by
   subst hr
   rw [List.pairwise_map]
   exact hp.2.sublist List.filter_sublist
  have hok:runsMay (ptR ws 0::keepR (some (ptR ws 0)) rs)=true:=by
   unfold runsMay
   simp only [runsOk,runOk,bA,dE,beq_iff_eq]
   exact ⟨rfl,⟨by show (0:Int)<4096;omega,dT (h0 0 (by simp)),trivial⟩,keepR_ok rs _ _ rfl (Int.le_refl _) (fun r hr'=>(hrs r hr').1) hpr fun r hr'=>(hrs r hr').2⟩
  have hbeg:begun (ptR ws 0::keepR (some (ptR ws 0)) rs) 0=1:=by
   unfold begun
   rw [List.countP_cons,List.countP_eq_zero.2 fun r hr'=>by have:=(hrs r (keepR_sub _ _ r hr')).1;simp;omega]
   rfl
  have hmo:mostOf (ptR ws 0::keepR (some (ptR ws 0)) rs) (0,4096)=((mostL 4096 (keepR (some (ptR ws 0)) rs) ((ptR ws 0).2,0)).1,(mostL 4096 (keepR (some (ptR ws 0)) rs) ((ptR ws 0).2,0)).2,0):=by
   unfold mostOf
   rw [hok,show spanMay (0,4096)=true from rfl,Bool.and_self,cond_true]
   dsimp only
   rw [hbeg]
   rfl
  show ((0:Int)==0&&((mostOf (ptR ws 0::keepR (some (ptR ws 0)) rs) (0,4096)).2.2==0&&decide ((mostOf (ptR ws 0::keepR (some (ptR ws 0)) rs) (0,4096)).1≤cap)))=true↔_
  rw [hmo]
  simp only [beq_self_eq_true,tA,dE]
  rw [mostL_le 4096 cap _ _ fun r hr'=>(hrs r (keepR_sub _ _ r hr')).2.1]
  constructor
  ·rintro ⟨h1,h2⟩ p hp'
   have h3:=(keepR_all cap rs (ptR ws 0) h1).1 h2
   rcases List.mem_cons.1 hp' with rfl|hp'
   ·exact h1
   ·by_cases hlt:p<4096
    ·have:ptR ws p∈rs:=by
      subst hr
      exact List.mem_map_of_mem (List.mem_filter.2 ⟨hp',dT hlt⟩)
     exact h3 _ this
    ·rw [hend p hlt];exact hc.1
  ·intro h
   have h1:(ptR ws 0).2≤cap:=h 0 (by simp)
   refine ⟨h1,(keepR_all cap rs (ptR ws 0) h1).2 fun r hr'=>?_⟩
   subst hr
   obtain ⟨p,h2,rfl⟩:=List.mem_map.1 hr'
   exact h p (List.mem_cons_of_mem _ (List.mem_filter.1 h2).1)
end
end Go.Proofs.YtkflbkcfabnomaaGreat.R
