/- NodeOrder: the walk and what opens a node. -/
import Derived.Test.YtelaliokmmaopaaDoorNodJ
import Derived.Test.YtelaliokmmaopaaDoorFrN
